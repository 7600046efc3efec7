/-
  The plain law of CRC-32: no program in sight. The register goes over a byte by eight steps (the document) or by two halves and a table (the code): the same; both are linear, and the step is one-to-one.
-/
namespace Go.Proofs.YtbfhgpaobnlodaaDoor

def P32 : BitVec 32 := 0xedb88320#32

/-- The bit steps of the document. -/
def stp (x : BitVec 32) : BitVec 32 := (x >>> 1) ^^^ (if x.getLsbD 0 then P32 else 0#32)
def stps : Nat → BitVec 32 → BitVec 32
  | 0, x => x
  | k + 1, x => stps k (stp x)

def tabL : List (BitVec 32) := [0x00000000, 0x1db71064, 0x3b6e20c8, 0x26d930ac, 0x76dc4190, 0x6b6b51f4, 0x4db26158, 0x5005713c, 0xedb88320, 0xf00f9344, 0xd6d6a3e8, 0xcb61b38c, 0x9b64c2b0, 0x86d3d2d4, 0xa00ae278, 0xbdbdf21c]
def tab (j : Nat) : BitVec 32 := tabL.getD j 0

/-- Half a byte by the table. -/
def nib (x : BitVec 32) : BitVec 32 := (x >>> 4) ^^^ tab (x.toNat % 16)
def nibs : Nat → BitVec 32 → BitVec 32
  | 0, x => x
  | k + 1, x => nib (nibs k x)

/-- A byte as 32 bits. -/
def ext (c : UInt8) : BitVec 32 := BitVec.ofNat 32 c.toNat

/-- A byte: as the code does it. -/
def byt (x : BitVec 32) (c : UInt8) : BitVec 32 := nibs 2 (x ^^^ ext c)
def reg (x : BitVec 32) (l : List UInt8) : BitVec 32 := l.foldl byt x
def crcExt (s : BitVec 32) (l : List UInt8) : BitVec 32 := ~~~ reg (~~~ s) l

/-! ### linear -/

theorem stp_xor (x y : BitVec 32) : stp (x ^^^ y) = stp x ^^^ stp y := by
  unfold stp
  rw [BitVec.ushiftRight_xor_distrib, BitVec.getLsbD_xor]
  cases x.getLsbD 0 <;> cases y.getLsbD 0 <;> simp
  · rw [BitVec.xor_assoc]
  · rw [BitVec.xor_assoc, BitVec.xor_assoc, BitVec.xor_comm (y >>> 1)]
  · rw [BitVec.xor_assoc, BitVec.xor_comm P32, BitVec.xor_assoc, BitVec.xor_self, BitVec.xor_zero]

theorem stps_xor (k : Nat) : ∀ x y, stps k (x ^^^ y) = stps k x ^^^ stps k y := by
  induction k with
  | zero => intros; rfl
  | succ k ih => intro x y; simp only [stps, stp_xor, ih]

theorem stps_add (j k : Nat) : ∀ x, stps (j + k) x = stps k (stps j x) := by
  induction j with
  | zero => intro x; rw [Nat.zero_add]; rfl
  | succ j ih => intro x; rw [Nat.add_right_comm]; exact ih _

theorem stps_zero (k : Nat) : stps k 0#32 = 0#32 := by
  induction k with
  | zero => rfl
  | succ k ih => exact ih

/-- What has noughts in its lowest k bits only moves. -/
theorem stps_high (k : Nat) : ∀ x : BitVec 32, (∀ i, i < k → x.getLsbD i = false) → stps k x = x >>> k := by
  induction k with
  | zero => intro x _; simp [stps]
  | succ k ih =>
    intro x h
    have h0 : stp x = x >>> 1 := by unfold stp; rw [h 0 (by omega)]; simp
    rw [stps, h0, ih]
    · rw [← BitVec.shiftRight_add, Nat.add_comm]
    · intro i hi
      rw [BitVec.getLsbD_ushiftRight]
      exact h _ (by omega)

theorem split4 (x : BitVec 32) : x = ((x >>> 4) <<< 4) ^^^ BitVec.ofNat 32 (x.toNat % 16) := by
  have e : BitVec.ofNat 32 (x.toNat % 16) = x &&& 15#32 := by
    apply BitVec.eq_of_toNat_eq
    rw [BitVec.toNat_and, BitVec.toNat_ofNat, show (15#32).toNat = 2 ^ 4 - 1 from rfl, Nat.and_two_pow_sub_one_eq_mod]
    omega
  rw [e]
  ext i hi
  have h15 : (15#32).getLsbD i = decide (i < 4) := by
    have : i = 0 ∨ i = 1 ∨ i = 2 ∨ i = 3 ∨ 4 ≤ i := by omega
    rcases this with rfl | rfl | rfl | rfl | h
    · rfl
    · rfl
    · rfl
    · rfl
    · have : (15#32).getLsbD i = false := by
        rw [BitVec.getLsbD_ofNat, Nat.testBit_lt_two_pow (Nat.lt_of_lt_of_le (by decide : 15 < 2 ^ 4) (Nat.pow_le_pow_right (by decide) h))]
        simp
      rw [this]
      simp; omega
  rw [BitVec.getLsbD_eq_getElem hi] at h15
  rw [BitVec.getElem_xor, BitVec.getElem_and, BitVec.getElem_shiftLeft, h15]
  by_cases h : i < 4
  · simp [h]
  · simp [h, show 4 + (i - 4) = i by omega, BitVec.getLsbD_eq_getElem hi]

theorem tab_stps : ∀ j, j < 16 → stps 4 (BitVec.ofNat 32 j) = tab j := by decide

theorem nib_eq (x : BitVec 32) : nib x = stps 4 x := by
  conv => rhs; rw [split4 x]
  rw [stps_xor, tab_stps _ (by omega), stps_high]
  · unfold nib
    congr 1
    ext i hi
    simp only [BitVec.getElem_ushiftRight, BitVec.getLsbD_shiftLeft, BitVec.getLsbD_ushiftRight]
    by_cases h : 4 + i < 32
    · simp [h]
    · simp [h, BitVec.getLsbD_of_ge x (4 + i) (by omega)]
  · intro i hi
    rw [BitVec.getLsbD_shiftLeft]
    simp [hi]

theorem byt_eq (x : BitVec 32) (c : UInt8) : byt x c = stps 8 (x ^^^ ext c) := by
  show nib (nib (x ^^^ ext c)) = _
  rw [nib_eq, nib_eq, ← stps_add]

theorem stps_succ (k : Nat) (x : BitVec 32) : stps (k + 1) x = stp (stps k x) := by rw [stps_add]; rfl

/-! ### the document's way: bit by bit -/

def refStep (x y : BitVec 32) : BitVec 32 := (x >>> 1) ^^^ (if (x ^^^ y).getLsbD 0 then P32 else 0#32)
/-- The bit that the i-th step takes, as the code makes it. -/
def refBit (l : List UInt8) (i : Nat) : BitVec 32 := BitVec.ofNat 32 ((l.getD (i / 8) 0).toNat / 2 ^ (i % 8))
def refTo (x : BitVec 32) (l : List UInt8) : Nat → BitVec 32
  | 0 => x
  | i + 1 => refStep (refTo x l i) (refBit l i)

theorem ext_shift (c : UInt8) (j : Nat) : ext c >>> j = BitVec.ofNat 32 (c.toNat / 2 ^ j) := by
  apply BitVec.eq_of_toNat_eq
  have hc : c.toNat < 256 := c.toNat_lt
  have hd : c.toNat / 2 ^ j ≤ c.toNat := Nat.div_le_self _ _
  rw [BitVec.toNat_ushiftRight, Nat.shiftRight_eq_div_pow, BitVec.toNat_ofNat, ext, BitVec.toNat_ofNat]
  rw [Nat.mod_eq_of_lt (show c.toNat < 2 ^ 32 by omega), Nat.mod_eq_of_lt (show c.toNat / 2 ^ j < 2 ^ 32 by omega)]

theorem ext_shift8 (c : UInt8) : ext c >>> 8 = 0#32 := by
  rw [ext_shift]
  have hc : c.toNat < 256 := c.toNat_lt
  rw [show c.toNat / 2 ^ 8 = 0 by omega]

theorem refStep_eq (a b : BitVec 32) : refStep (a ^^^ b) b = stp a ^^^ (b >>> 1) := by
  unfold refStep stp
  rw [BitVec.ushiftRight_xor_distrib, show a ^^^ b ^^^ b = a by rw [BitVec.xor_assoc, BitVec.xor_self, BitVec.xor_zero]]
  rw [BitVec.xor_assoc, BitVec.xor_assoc, BitVec.xor_comm (b >>> 1)]

theorem refTo_part (x : BitVec 32) (l : List UInt8) (k : Nat) : ∀ j, j ≤ 8 → refTo x l (8 * k + j) = stps j (refTo x l (8 * k) ^^^ ext (l.getD k 0)) ^^^ (ext (l.getD k 0) >>> j) := by
  intro j
  induction j with
  | zero => intro _; simp [stps, BitVec.xor_assoc]
  | succ j ih =>
    intro hj
    rw [← Nat.add_assoc, refTo, ih (by omega)]
    have e : refBit l (8 * k + j) = ext (l.getD k 0) >>> j := by
      rw [ext_shift, refBit, show (8 * k + j) / 8 = k by omega, show (8 * k + j) % 8 = j by omega]
    rw [e, refStep_eq, stps_succ, ← BitVec.shiftRight_add]

theorem refTo_eq (x : BitVec 32) (l : List UInt8) : ∀ k, k ≤ l.length → refTo x l (8 * k) = reg x (l.take k) := by
  intro k
  induction k with
  | zero => intro _; simp [refTo, reg]
  | succ k ih =>
    intro hk
    rw [show 8 * (k + 1) = 8 * k + 8 by omega, refTo_part x l k 8 (by omega), ext_shift8, BitVec.xor_zero, ih (by omega)]
    rw [List.take_succ_eq_append_getElem (by omega), reg, reg, List.foldl_append, List.foldl_cons, List.foldl_nil, byt_eq]
    simp [List.getD, show k < l.length by omega]

/-! ### what follows -/

theorem reg_append (x : BitVec 32) (a b : List UInt8) : reg x (a ++ b) = reg (reg x a) b := List.foldl_append ..

theorem crcExt_append (s : BitVec 32) (a b : List UInt8) : crcExt (crcExt s a) b = crcExt s (a ++ b) := by
  unfold crcExt
  rw [BitVec.not_not, reg_append]

theorem crcExt_nil (s : BitVec 32) : crcExt s [] = s := by unfold crcExt reg; simp

theorem ext_xor (c d : UInt8) : ext (c ^^^ d) = ext c ^^^ ext d := by
  apply BitVec.eq_of_toNat_eq
  have hc : c.toNat < 256 := c.toNat_lt
  have hd : d.toNat < 256 := d.toNat_lt
  have hx : c.toNat ^^^ d.toNat < 2 ^ 8 := Nat.xor_lt_two_pow (n := 8) (by omega) (by omega)
  rw [BitVec.toNat_xor, ext, ext, ext, BitVec.toNat_ofNat, BitVec.toNat_ofNat, BitVec.toNat_ofNat, UInt8.toNat_xor]
  rw [Nat.mod_eq_of_lt (show c.toNat < 2 ^ 32 by omega), Nat.mod_eq_of_lt (show d.toNat < 2 ^ 32 by omega), Nat.mod_eq_of_lt (by omega)]

/-- Of two texts, put together bit by bit. -/
def xorL (a b : List UInt8) : List UInt8 := List.zipWith (· ^^^ ·) a b

theorem reg_xor : ∀ (a b : List UInt8) (x y : BitVec 32), a.length = b.length → reg (x ^^^ y) (xorL a b) = reg x a ^^^ reg y b
  | [], [], x, y, _ => rfl
  | c :: a, d :: b, x, y, h => by
    have e : byt (x ^^^ y) (c ^^^ d) = byt x c ^^^ byt y d := by
      rw [byt_eq, byt_eq, byt_eq, ← stps_xor, ext_xor]
      congr 1
      rw [BitVec.xor_assoc, BitVec.xor_assoc, ← BitVec.xor_assoc y, ← BitVec.xor_assoc (ext c), BitVec.xor_comm y]
    show reg (byt (x ^^^ y) (c ^^^ d)) (xorL a b) = _
    rw [e]
    exact reg_xor a b _ _ (by simpa using h)
  | [], _ :: _, _, _, h => by simp at h
  | _ :: _, [], _, _, h => by simp at h

theorem xorL_length (a b : List UInt8) (h : a.length = b.length) : (xorL a b).length = a.length := by simp [xorL, h]

theorem xorL_getD (a b : List UInt8) (k : Nat) (ha : k < a.length) (hb : k < b.length) : (xorL a b).getD k 0 = a.getD k 0 ^^^ b.getD k 0 := by
  have h : k < (xorL a b).length := by simp [xorL]; omega
  simp only [List.getD, List.getElem?_eq_getElem h, List.getElem?_eq_getElem ha, List.getElem?_eq_getElem hb, Option.getD_some]
  simp [xorL]

theorem take_getD (l : List UInt8) (n k : Nat) (h : k < n) : (l.take n).getD k 0 = l.getD k 0 := by
  simp [List.getD, h]

/-- What has been gathered of xs behind k rounds. -/
def gath (xs : List UInt8) (n k : Nat) : List UInt8 := xs.take k ++ List.replicate (n - k) 0
theorem gath_length (xs : List UInt8) (n k : Nat) (h : n = xs.length) (hk : k ≤ n) : (gath xs n k).length = n := by
  simp [gath]; omega
theorem gath_set (xs : List UInt8) (n k : Nat) (h : n = xs.length) (hk : k < n) : (gath xs n k).set k (xs.getD k 0) = gath xs n (k + 1) := by
  unfold gath
  have hl : (xs.take k).length = k := by simp; omega
  rw [List.set_append_right _ _ (by omega), hl, Nat.sub_self, show n - k = (n - (k + 1)) + 1 by omega, List.replicate_succ, List.set_cons_zero, List.take_succ_eq_append_getElem (show k < xs.length by omega)]
  simp only [List.getD, List.getElem?_eq_getElem (show k < xs.length by omega), Option.getD_some, List.append_assoc, List.singleton_append]

/-- THE THEOREM OF STAGE 2. -/
theorem crc_together (a b c : List UInt8) (h : a.length = b.length) (h' : a.length = c.length) : crcExt 0 (xorL (xorL a b) c) = crcExt 0 a ^^^ crcExt 0 b ^^^ crcExt 0 c := by
  unfold crcExt
  have e : (~~~ 0#32) = (~~~ 0#32) ^^^ (~~~ 0#32) ^^^ (~~~ 0#32) := by decide
  have : reg (~~~ 0#32) (xorL (xorL a b) c) = reg (~~~ 0#32) a ^^^ reg (~~~ 0#32) b ^^^ reg (~~~ 0#32) c := by
    conv => lhs; rw [e]
    rw [reg_xor _ _ _ _ (by rw [xorL_length a b h, h']), reg_xor _ _ _ _ h]
  show ~~~ reg (~~~ 0#32) (xorL (xorL a b) c) = ~~~ reg (~~~ 0#32) a ^^^ ~~~ reg (~~~ 0#32) b ^^^ ~~~ reg (~~~ 0#32) c
  rw [this]
  generalize reg (~~~ 0#32) a = p
  generalize reg (~~~ 0#32) b = q
  generalize reg (~~~ 0#32) c = r
  ext i hi
  simp only [BitVec.getElem_not, BitVec.getElem_xor]
  cases p[i] <;> cases q[i] <;> cases r[i] <;> rfl

/-! ### one-to-one -/

theorem stp_zero_iff (x : BitVec 32) (h : stp x = 0#32) : x = 0#32 := by
  unfold stp at h
  have h0 : x.getLsbD 0 = false := by
    cases hx : x.getLsbD 0 with
    | false => rfl
    | true =>
      exfalso
      rw [hx] at h
      have := congrArg (fun z : BitVec 32 => z.getLsbD 31) h
      simp only [BitVec.getLsbD_xor, BitVec.getLsbD_ushiftRight, if_true] at this
      rw [BitVec.getLsbD_of_ge x (1 + 31) (by omega)] at this
      exact absurd this (by decide)
  rw [h0] at h
  simp only [Bool.false_eq_true, if_false, BitVec.xor_zero] at h
  apply BitVec.eq_of_getLsbD_eq
  intro i hi
  rw [BitVec.getLsbD_zero]
  cases i with
  | zero => exact h0
  | succ i =>
    have := congrArg (fun z : BitVec 32 => z.getLsbD i) h
    simp only [BitVec.getLsbD_ushiftRight, BitVec.getLsbD_zero] at this
    rw [Nat.add_comm]
    exact this

theorem stps_zero_iff (k : Nat) : ∀ x : BitVec 32, stps k x = 0#32 → x = 0#32 := by
  induction k with
  | zero => intro x h; exact h
  | succ k ih => intro x h; exact stp_zero_iff _ (ih _ h)

theorem xor_zero_iff (x y : BitVec 32) : x ^^^ y = 0#32 ↔ x = y := by
  constructor
  · intro h
    have := congrArg (· ^^^ y) h
    simp only [BitVec.xor_assoc, BitVec.xor_self, BitVec.xor_zero, BitVec.zero_xor] at this
    exact this
  · rintro rfl; exact BitVec.xor_self

theorem stps_inj (k : Nat) (x y : BitVec 32) (h : stps k x = stps k y) : x = y := by
  rw [← xor_zero_iff] at h ⊢
  rw [← stps_xor] at h
  exact stps_zero_iff k _ h

theorem reg_inj : ∀ (l : List UInt8) (x y : BitVec 32), reg x l = reg y l → x = y
  | [], _, _, h => h
  | c :: l, x, y, h => by
    have h1 : byt x c = byt y c := reg_inj l _ _ h
    rw [byt_eq, byt_eq] at h1
    have h2 := stps_inj 8 _ _ h1
    rw [← xor_zero_iff] at h2 ⊢
    rw [← h2, BitVec.xor_assoc, BitVec.xor_comm y, ← BitVec.xor_assoc (ext c), BitVec.xor_self, BitVec.zero_xor]

theorem crc_apart (s t : BitVec 32) (l : List UInt8) : (crcExt s l = crcExt t l) ↔ s = t := by
  constructor
  · intro h
    unfold crcExt at h
    have h1 := congrArg (~~~ ·) h
    simp only [BitVec.not_not] at h1
    have h2 := congrArg (~~~ ·) (reg_inj l _ _ h1)
    simpa only [BitVec.not_not] using h2
  · rintro rfl; rfl

/-! ### a text with its sum behind it -/

/-- A sum's bytes, the lowest first. -/
def leB (s : BitVec 32) (k : Nat) : UInt8 := UInt8.ofNat (s.toNat / 2 ^ (8 * k))
def le4 (s : BitVec 32) : List UInt8 := [leB s 0, leB s 1, leB s 2, leB s 3]
theorem le4_snoc (s : BitVec 32) (k : Nat) (hk : k < 4) : (le4 s).take (k + 1) = (le4 s).take k ++ [leB s k] := by
  have : k = 0 ∨ k = 1 ∨ k = 2 ∨ k = 3 := by omega
  rcases this with rfl | rfl | rfl | rfl <;> rfl

/-- Four bytes as one number. -/
def num4 (c0 c1 c2 c3 : UInt8) : BitVec 32 := ext c0 ^^^ (ext c1 <<< 8) ^^^ (ext c2 <<< 16) ^^^ (ext c3 <<< 24)

theorem ext_bit (c : UInt8) (i : Nat) : (ext c).getLsbD i = c.toNat.testBit i := by
  have hc : c.toNat < 256 := c.toNat_lt
  unfold ext
  rw [BitVec.getLsbD_ofNat]
  by_cases h : i < 32
  · simp [h]
  · rw [Nat.testBit_lt_two_pow (Nat.lt_of_lt_of_le (show c.toNat < 2 ^ 8 by omega) (Nat.pow_le_pow_right (by decide) (by omega)))]
    simp

theorem stps_shl (c : UInt8) (m : Nat) (hm : m ≤ 24) : stps m (ext c <<< m) = ext c := by
  rw [stps_high]
  · apply BitVec.eq_of_getLsbD_eq
    intro i hi
    rw [BitVec.getLsbD_ushiftRight, BitVec.getLsbD_shiftLeft]
    by_cases h : m + i < 32
    · simp [h]
    · have hb : (ext c).getLsbD i = false := by
        rw [ext_bit]
        have hc : c.toNat < 256 := c.toNat_lt
        exact Nat.testBit_lt_two_pow (Nat.lt_of_lt_of_le (show c.toNat < 2 ^ 8 by omega) (Nat.pow_le_pow_right (by decide) (by omega)))
      simp [h, hb]
  · intro i hi
    rw [BitVec.getLsbD_shiftLeft]
    simp [hi]

theorem reg4 (r : BitVec 32) (c0 c1 c2 c3 : UInt8) : reg r [c0, c1, c2, c3] = stps 32 (r ^^^ num4 c0 c1 c2 c3) := by
  show byt (byt (byt (byt r c0) c1) c2) c3 = _
  have h1 : byt (byt r c0) c1 = stps 16 (r ^^^ ext c0 ^^^ (ext c1 <<< 8)) := by
    rw [byt_eq, byt_eq]
    conv => lhs; rw [← stps_shl c1 8 (by omega)]
    rw [← stps_xor, ← stps_add]
  have h2 : byt (byt (byt r c0) c1) c2 = stps 24 (r ^^^ ext c0 ^^^ (ext c1 <<< 8) ^^^ (ext c2 <<< 16)) := by
    rw [h1, byt_eq]
    conv => lhs; rw [← stps_shl c2 16 (by omega)]
    rw [← stps_xor, ← stps_add]
  rw [h2, byt_eq]
  conv => lhs; rw [← stps_shl c3 24 (by omega)]
  rw [← stps_xor, ← stps_add]
  unfold num4
  simp only [BitVec.xor_assoc]

theorem leB_bit (s : BitVec 32) (k i : Nat) : (leB s k).toNat.testBit i = (decide (i < 8) && s.getLsbD (8 * k + i)) := by
  unfold leB
  rw [UInt8.toNat_ofNat', Nat.testBit_mod_two_pow, ← Nat.shiftRight_eq_div_pow, Nat.testBit_shiftRight]
  rfl

theorem num4_le (s : BitVec 32) : num4 (leB s 0) (leB s 1) (leB s 2) (leB s 3) = s := by
  apply BitVec.eq_of_getLsbD_eq
  intro i hi
  unfold num4
  simp only [BitVec.getLsbD_xor, BitVec.getLsbD_shiftLeft, ext_bit, leB_bit]
  have : i < 8 ∨ (8 ≤ i ∧ i < 16) ∨ (16 ≤ i ∧ i < 24) ∨ 24 ≤ i := by omega
  rcases this with h | ⟨h, h'⟩ | ⟨h, h'⟩ | h
  · simp [h, show i < 16 by omega, show i < 24 by omega]
  · simp [show ¬ i < 8 by omega, h', hi, show i < 24 by omega, show i - 8 < 8 by omega, show 8 + (i - 8) = i by omega]
  · simp [show ¬ i < 8 by omega, show ¬ i < 16 by omega, h', hi, show ¬ i - 8 < 8 by omega, show i - 16 < 8 by omega, show 16 + (i - 16) = i by omega]
  · simp [show ¬ i < 8 by omega, show ¬ i < 16 by omega, show ¬ i < 24 by omega, hi, show ¬ i - 8 < 8 by omega, show ¬ i - 16 < 8 by omega, show i - 24 < 8 by omega, show 24 + (i - 24) = i by omega]

theorem rest_const : ~~~ stps 32 (~~~ 0#32) = 0x2144df1c#32 := by decide +kernel

theorem xor_not (r : BitVec 32) : r ^^^ ~~~ r = ~~~ 0#32 := by
  apply BitVec.eq_of_getLsbD_eq
  intro i hi
  rw [BitVec.getLsbD_xor, BitVec.getLsbD_not, BitVec.getLsbD_not, BitVec.getLsbD_zero]
  simp [hi]

theorem crc_rest (l : List UInt8) : crcExt 0 (l ++ le4 (crcExt 0 l)) = 0x2144df1c#32 := by
  unfold crcExt
  rw [reg_append]
  show ~~~ reg (reg (~~~ 0#32) l) (le4 (~~~ reg (~~~ 0#32) l)) = _
  generalize reg (~~~ 0#32) l = r
  unfold le4
  rw [reg4, num4_le, ← rest_const, xor_not]

/-! ### bursts -/

def bitL (d : List UInt8) (j : Nat) : Bool := (d.getD (j / 8) 0).toNat.testBit (j % 8)

theorem refStep_bit (x : BitVec 32) (l : List UInt8) (i : Nat) : refStep x (refBit l i) = stp (x ^^^ (if bitL l i then 1#32 else 0#32)) := by
  have hb : (refBit l i).getLsbD 0 = bitL l i := by
    unfold refBit bitL
    rw [BitVec.getLsbD_ofNat, ← Nat.shiftRight_eq_div_pow, Nat.testBit_shiftRight]
    simp
  unfold refStep stp
  rw [BitVec.ushiftRight_xor_distrib, BitVec.getLsbD_xor, BitVec.getLsbD_xor, hb]
  cases bitL l i
  · simp
  · rw [show (if true = true then 1#32 else 0#32) = 1#32 from rfl, show 1#32 >>> 1 = 0#32 from rfl, BitVec.xor_zero]
    rfl

theorem stps_one (t : Nat) (h : t < 32) : stps t (1#32 <<< t) = 1#32 := by
  rw [stps_high]
  · apply BitVec.eq_of_getLsbD_eq
    intro i hi
    rw [BitVec.getLsbD_ushiftRight, BitVec.getLsbD_shiftLeft]
    by_cases h2 : t + i < 32
    · simp [h2]
    · have : (1#32).getLsbD i = false := by
        rw [BitVec.getLsbD_one]
        simp; omega
      simp [h2, this]
  · intro i hi
    rw [BitVec.getLsbD_shiftLeft]
    simp [hi]

theorem burst_inv (d : List UInt8) (hH : ∀ i j, i ≤ j → bitL d i = true → bitL d j = true → j < i + 32) : ∀ n,
    ((∀ i, i < n → bitL d i = false) ∧ refTo 0#32 d n = 0#32) ∨
    (∃ i0, i0 < n ∧ bitL d i0 = true ∧ refTo 0#32 d n ≠ 0#32 ∧ (n ≤ i0 + 32 → ∃ W : BitVec 32, W.getLsbD 0 = true ∧ refTo 0#32 d n = stps (n - i0) W)) := by
  intro n
  induction n with
  | zero => exact .inl ⟨fun i hi => by omega, rfl⟩
  | succ n ih =>
    have hs : refTo 0#32 d (n + 1) = stp (refTo 0#32 d n ^^^ (if bitL d n then 1#32 else 0#32)) := by
      rw [refTo, refStep_bit]
    rcases ih with ⟨h0, hz⟩ | ⟨i0, hi0, hb, hne, hW⟩
    · cases hbn : bitL d n with
      | false =>
        refine .inl ⟨fun i hi => ?_, ?_⟩
        · by_cases h : i < n
          · exact h0 i h
          · obtain rfl : i = n := by omega
            exact hbn
        · rw [hs, hz, hbn]; decide
      | true =>
        refine .inr ⟨n, by omega, hbn, ?_, fun _ => ⟨1#32, by decide, ?_⟩⟩
        · rw [hs, hz, hbn]; decide
        · rw [hs, hz, hbn, Nat.add_sub_cancel_left]; rfl
    · by_cases hlt : n < i0 + 32
      · obtain ⟨W, hW0, hWs⟩ := hW (by omega)
        have ht : n - i0 < 32 := by omega
        have ht1 : 1 ≤ n - i0 := by omega
        have key : refTo 0#32 d (n + 1) = stps (n + 1 - i0) (W ^^^ (if bitL d n then 1#32 <<< (n - i0) else 0#32)) := by
          rw [hs, hWs, show n + 1 - i0 = (n - i0) + 1 by omega, stps_succ, stps_xor]
          congr 2
          cases bitL d n
          · simp [stps_zero]
          · simp [stps_one _ ht]
        have hW' : (W ^^^ (if bitL d n then 1#32 <<< (n - i0) else 0#32)).getLsbD 0 = true := by
          rw [BitVec.getLsbD_xor, hW0]
          cases bitL d n
          · simp
          · simp [show 0 < n - i0 by omega]
        refine .inr ⟨i0, by omega, hb, ?_, fun _ => ⟨_, hW', key⟩⟩
        rw [key]
        intro h
        have := stps_zero_iff _ _ h
        rw [this] at hW'
        simp at hW'
      · have hbn : bitL d n = false := by
          cases h : bitL d n with
          | false => rfl
          | true => have := hH i0 n (by omega) hb h; omega
        refine .inr ⟨i0, by omega, hb, ?_, fun h => by omega⟩
        rw [hs, hbn]
        simp only [Bool.false_eq_true, if_false, BitVec.xor_zero]
        exact fun h => hne (stp_zero_iff _ h)

/-- One bit turned. -/
def flipB (d : List UInt8) (k : Nat) : List UInt8 := d.set (k / 8) (d.getD (k / 8) 0 ^^^ UInt8.ofNat (2 ^ (k % 8)))

theorem flipB_length (d : List UInt8) (k : Nat) : (flipB d k).length = d.length := by simp [flipB]

theorem pow8_bit (a j : Nat) (hj : j < 8) : (UInt8.ofNat (2 ^ a)).toNat.testBit j = decide (a = j) := by
  rw [UInt8.toNat_ofNat', Nat.testBit_mod_two_pow, Nat.testBit_two_pow]
  simp [hj]

theorem bitL_flip (d : List UInt8) (k j : Nat) (hk : k / 8 < d.length) : bitL (flipB d k) j = (bitL d j ^^ decide (k = j)) := by
  unfold bitL flipB
  by_cases h : k / 8 = j / 8
  · rw [← h]
    have e : (d.set (k / 8) (d.getD (k / 8) 0 ^^^ UInt8.ofNat (2 ^ (k % 8)))).getD (k / 8) 0 = d.getD (k / 8) 0 ^^^ UInt8.ofNat (2 ^ (k % 8)) := by
      simp [List.getD, hk]
    rw [e, UInt8.toNat_xor, Nat.testBit_xor, pow8_bit _ _ (by omega)]
    congr 1
    exact decide_eq_decide.2 (by omega)
  · have e : (d.set (k / 8) (d.getD (k / 8) 0 ^^^ UInt8.ofNat (2 ^ (k % 8)))).getD (j / 8) 0 = d.getD (j / 8) 0 := by
      simp [List.getD, h]
    rw [e, decide_eq_false (by intro e2; subst e2; exact h rfl), Bool.xor_false]

theorem xorL_set (a b : List UInt8) (i : Nat) (x : UInt8) : xorL a (b.set i (b.getD i 0 ^^^ x)) = (xorL a b).set i ((xorL a b).getD i 0 ^^^ x) := by
  apply List.ext_getElem
  · simp [xorL]
  · intro j h1 h2
    have hl : j < a.length ∧ j < b.length := by simp [xorL] at h1; omega
    by_cases h : i = j
    · subst h
      have e := xorL_getD a b i hl.1 hl.2
      generalize (xorL a b).getD i 0 = q at *
      subst e
      simp [xorL, List.getD, hl.1, hl.2, UInt8.xor_assoc]
    · simp [xorL, h]

theorem xorL_flip (a b : List UInt8) (k : Nat) : xorL a (flipB b k) = flipB (xorL a b) k := xorL_set a b _ _

theorem xorL_zero (a : List UInt8) : xorL a (List.replicate a.length 0) = a := by
  apply List.ext_getElem
  · simp [xorL]
  · intro j h1 h2
    simp [xorL]

/-- Whether the i-th of the mask's bits is turned. -/
def turnC (mask : BitVec 32) (fr n i : Nat) : Bool := mask.getLsbD i && decide (fr + i < n)
/-- What has been turned behind i rounds. -/
def dTo (mask : BitVec 32) (fr N : Nat) : Nat → List UInt8
  | 0 => List.replicate N 0
  | i + 1 => if turnC mask fr (8 * N) i then flipB (dTo mask fr N i) (fr + i) else dTo mask fr N i
def turnedTo (mask : BitVec 32) (fr N : Nat) : Nat → Bool
  | 0 => false
  | i + 1 => turnedTo mask fr N i || turnC mask fr (8 * N) i

theorem dTo_length (mask : BitVec 32) (fr N : Nat) : ∀ i, (dTo mask fr N i).length = N := by
  intro i
  induction i with
  | zero => simp [dTo]
  | succ i ih => unfold dTo; split <;> simp [flipB_length, ih]

theorem dTo_bit (mask : BitVec 32) (fr N : Nat) : ∀ i j, bitL (dTo mask fr N i) j = (decide (fr ≤ j ∧ j < fr + i) && turnC mask fr (8 * N) (j - fr)) := by
  intro i
  induction i with
  | zero =>
    intro j
    have : decide (fr ≤ j ∧ j < fr + 0) = false := decide_eq_false (by omega)
    rw [this]
    unfold bitL dTo
    simp [List.getD, List.getElem?_replicate]
    split <;> simp
  | succ i ih =>
    intro j
    unfold dTo
    cases ht : turnC mask fr (8 * N) i with
    | true =>
      have hn : fr + i < 8 * N := by
        unfold turnC at ht
        simp at ht
        exact ht.2
      rw [if_pos rfl, bitL_flip _ _ _ (by rw [dTo_length]; omega), ih]
      by_cases h : fr + i = j
      · subst h
        rw [decide_eq_false (show ¬ (fr ≤ fr + i ∧ fr + i < fr + i) by omega), decide_eq_true (show fr ≤ fr + i ∧ fr + i < fr + (i + 1) by omega), Nat.add_sub_cancel_left, ht]
        simp
      · rw [decide_eq_false h, Bool.xor_false]
        congr 1
        exact decide_eq_decide.2 (by omega)
    | false =>
      rw [if_neg (by simp), ih]
      by_cases h : fr + i = j
      · subst h
        rw [Nat.add_sub_cancel_left, ht]; simp
      · congr 1
        exact decide_eq_decide.2 (by omega)

theorem turned_iff (mask : BitVec 32) (fr N : Nat) : ∀ i, turnedTo mask fr N i = true ↔ ∃ t, t < i ∧ turnC mask fr (8 * N) t = true := by
  intro i
  induction i with
  | zero => simp [turnedTo]
  | succ i ih =>
    unfold turnedTo
    rw [Bool.or_eq_true, ih]
    constructor
    · rintro (⟨t, h1, h2⟩ | h)
      · exact ⟨t, by omega, h2⟩
      · exact ⟨i, by omega, h⟩
    · rintro ⟨t, h1, h2⟩
      by_cases h : t < i
      · exact .inl ⟨t, h, h2⟩
      · obtain rfl : t = i := by omega
        exact .inr h2

/-- A burst is told by the register. -/
theorem burst_reg (mask : BitVec 32) (fr N : Nat) : reg 0#32 (dTo mask fr N 32) = 0#32 ↔ turnedTo mask fr N 32 = false := by
  have hr : reg 0#32 (dTo mask fr N 32) = refTo 0#32 (dTo mask fr N 32) (8 * N) := by
    have := refTo_eq 0#32 (dTo mask fr N 32) N (by rw [dTo_length]; exact Nat.le_refl _)
    rw [this, List.take_of_length_le (by rw [dTo_length]; exact Nat.le_refl _)]
  rw [hr]
  have hbit : ∀ j, bitL (dTo mask fr N 32) j = true → fr ≤ j ∧ j < fr + 32 ∧ turnC mask fr (8 * N) (j - fr) = true := by
    intro j hj
    rw [dTo_bit] at hj
    simp at hj
    exact ⟨hj.1.1, hj.1.2, hj.2⟩
  have inv := burst_inv (dTo mask fr N 32) (fun i j _ hi hj => by have := hbit i hi; have := hbit j hj; omega) (8 * N)
  have hall : (∀ i, i < 8 * N → bitL (dTo mask fr N 32) i = false) ↔ turnedTo mask fr N 32 = false := by
    constructor
    · intro h
      cases ht : turnedTo mask fr N 32 with
      | false => rfl
      | true =>
        obtain ⟨t, h1, h2⟩ := (turned_iff mask fr N 32).1 ht
        have hn : fr + t < 8 * N := by
          unfold turnC at h2
          simp at h2
          exact h2.2
        have := h (fr + t) hn
        rw [dTo_bit, Nat.add_sub_cancel_left, h2] at this
        simp at this
        omega
    · intro h i hi
      cases hb : bitL (dTo mask fr N 32) i with
      | false => rfl
      | true =>
        have h3 := hbit i hb
        have : turnedTo mask fr N 32 = true := (turned_iff mask fr N 32).2 ⟨i - fr, by omega, h3.2.2⟩
        rw [h] at this
        cases this
  rw [← hall]
  rcases inv with ⟨h0, hz⟩ | ⟨i0, hi0, hb, hne, _⟩
  · exact ⟨fun _ => h0, fun _ => hz⟩
  · exact ⟨fun h => absurd h hne, fun h => by rw [h i0 hi0] at hb; cases hb⟩

/-- THE LAW OF BURSTS: with b's sum behind it, turned: the four bytes are the sum of what stands ahead of them just if nothing is turned. -/
theorem crc_burst (b : List UInt8) (mask : BitVec 32) (fr : Nat) (b' : List UInt8) (c0 c1 c2 c3 : UInt8)
    (h : xorL (b ++ le4 (crcExt 0 b)) (dTo mask fr (b.length + 4) 32) = b' ++ [c0, c1, c2, c3]) :
    (crcExt 0 b' = num4 c0 c1 c2 c3) ↔ turnedTo mask fr (b.length + 4) 32 = false := by
  have hl : (b ++ le4 (crcExt 0 b)).length = (dTo mask fr (b.length + 4) 32).length := by rw [dTo_length]; simp [le4]
  have h1 := reg_xor _ _ (~~~ 0#32) 0#32 hl
  rw [h, BitVec.xor_zero] at h1
  have h2 : reg (~~~ 0#32) (b ++ le4 (crcExt 0 b)) = stps 32 (~~~ 0#32) := by
    have := crc_rest b
    unfold crcExt at this
    rw [← rest_const] at this
    have h3 := congrArg (~~~ ·) this
    simp only [BitVec.not_not] at h3
    exact h3
  rw [h2, reg_append, reg4] at h1
  rw [← burst_reg]
  unfold crcExt
  show ~~~ reg (~~~ 0#32) b' = _ ↔ _
  generalize reg (~~~ 0#32) b' = r at *
  generalize num4 c0 c1 c2 c3 = q at *
  generalize reg 0#32 (dTo mask fr (b.length + 4) 32) = z at *
  constructor
  · intro e
    rw [← e, xor_not] at h1
    have := congrArg (stps 32 (~~~ 0#32) ^^^ ·) h1
    simp only [← BitVec.xor_assoc, BitVec.xor_self, BitVec.zero_xor] at this
    exact this.symm
  · intro e
    rw [e, BitVec.xor_zero] at h1
    have h4 := stps_inj 32 _ _ h1
    rw [← xor_not r] at h4
    have := congrArg (r ^^^ ·) h4
    simp only [← BitVec.xor_assoc, BitVec.xor_self, BitVec.zero_xor] at this
    exact this.symm

/-! ### the four bytes, put together from the highest on -/
def sdTo (c0 c1 c2 c3 : UInt8) : Nat → BitVec 32
  | 0 => 0
  | 1 => ext c3
  | 2 => (ext c3 <<< 8) ||| ext c2
  | 3 => (((ext c3 <<< 8) ||| ext c2) <<< 8) ||| ext c1
  | _ => ((((ext c3 <<< 8) ||| ext c2) <<< 8 ||| ext c1) <<< 8) ||| ext c0

theorem ext_high (c : UInt8) (i : Nat) (h : 8 ≤ i) : (ext c).getLsbD i = false := by
  rw [ext_bit]
  have hc : c.toNat < 256 := c.toNat_lt
  exact Nat.testBit_lt_two_pow (Nat.lt_of_lt_of_le (show c.toNat < 2 ^ 8 by omega) (Nat.pow_le_pow_right (by decide) h))

theorem sd_num4 (c0 c1 c2 c3 : UInt8) : sdTo c0 c1 c2 c3 4 = num4 c0 c1 c2 c3 := by
  apply BitVec.eq_of_getLsbD_eq
  intro i hi
  unfold sdTo num4
  simp only [BitVec.getLsbD_xor, BitVec.getLsbD_or, BitVec.getLsbD_shiftLeft]
  have : i < 8 ∨ (8 ≤ i ∧ i < 16) ∨ (16 ≤ i ∧ i < 24) ∨ 24 ≤ i := by omega
  rcases this with h | ⟨h, h'⟩ | ⟨h, h'⟩ | h
  · simp [h, show i < 16 by omega, show i < 24 by omega]
  · rw [ext_high c0 i h]
    simp [show ¬ i < 8 by omega, h', hi, show i < 24 by omega, show i - 8 < 8 by omega, show i - 8 < 32 by omega]
  · rw [ext_high c0 i (by omega), ext_high c1 (i - 8) (by omega), show i - 8 - 8 = i - 16 by omega]
    simp [show ¬ i < 8 by omega, show ¬ i < 16 by omega, h', hi, show ¬ i - 8 < 8 by omega, show i - 8 < 32 by omega, show i - 16 < 8 by omega, show i - 16 < 32 by omega]
  · rw [ext_high c0 i (by omega), ext_high c1 (i - 8) (by omega), show i - 8 - 8 = i - 16 by omega, ext_high c2 (i - 16) (by omega), show i - 16 - 8 = i - 24 by omega]
    simp [show ¬ i < 8 by omega, show ¬ i < 16 by omega, show ¬ i < 24 by omega, hi, show ¬ i - 8 < 8 by omega, show ¬ i - 16 < 8 by omega, show i - 8 < 32 by omega, show i - 16 < 32 by omega, show i - 24 < 32 by omega]

theorem last_four (c : List UInt8) (L : Nat) (h : c.length = L + 4) : c = c.take L ++ [c.getD L 0, c.getD (L + 1) 0, c.getD (L + 2) 0, c.getD (L + 3) 0] := by
  have hd : (c.drop L).length = 4 := by simp; omega
  have hg : ∀ j, c.getD (L + j) 0 = (c.drop L).getD j 0 := fun j => by simp [List.getD]
  have h0 := hg 0
  rw [Nat.add_zero] at h0
  rw [h0, hg 1, hg 2, hg 3]
  conv => lhs; rw [← List.take_append_drop L c]
  congr 1
  generalize c.drop L = d at *
  match d, hd with
  | [a, b, x, y], _ => rfl
end Go.Proofs.YtbfhgpaobnlodaaDoor
