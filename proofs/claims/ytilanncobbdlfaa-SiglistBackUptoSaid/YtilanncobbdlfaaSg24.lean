/-
  Plain laws: what is written is read; what is read is written as it was; which beginnings of lists' bytes are lists.
-/
import Derived.Test.YtilanncobbdlfaaSg10
namespace Go.Proofs.Ytilanncobbdlfaa
open Go Go.RowKit
set_option linter.unusedVariables false

theorem rdLs_step_none {l : List UInt8} (h : l ≠ []) (hk : okB l = false) : rdLs l = none := by rw [rdLs_step l h, hk]; rfl
/-- Every item's owner has sixteen bytes. -/
def OwnO (L : List Li) : Prop := ∀ x ∈ L, ∀ y ∈ x.i, y.o.length = 16
theorem OwnO.take {L : List Li} (h : OwnO L) (n : Nat) : OwnO (L.take n) := fun x hx => h x (List.mem_of_mem_take hx)
theorem ri_all {x : Li} (h : riB x = true) : (∀ y ∈ x.i, mayB x.k y.d = true ∧ y.d.length = szL x) ∧ 0 < x.i.length := by
  unfold riB at h
  rw [Bool.and_eq_true, List.all_eq_true, decide_eq_true_iff] at h
  refine ⟨fun y hy => ?_, ?_⟩
  · have := h.1 y hy
    rw [Bool.and_eq_true, decide_eq_true_iff] at this
    exact this
  · exact List.length_pos_iff.2 h.2
theorem ri_kind {x : Li} (h : riB x = true) : (1 ≤ x.k ∧ x.k ≤ 3) ∧ 1 ≤ szL x ∧ szL x ≤ 8192 := by
  obtain ⟨h1, h2⟩ := ri_all h
  have := h1 x.i[0] (List.getElem_mem h2)
  have h3 := mayB_bd _ _ this.1
  omega
theorem body_len {x : Li} (h : riB x = true) (ho : ∀ y ∈ x.i, y.o.length = 16) : (bodyL x.i).length = x.i.length * (16 + szL x) :=
  bodyL_length _ _ (fun y hy => by
    have := ((ri_all h).1 y hy).2
    have := ho y hy
    omega)
theorem liW_len {x : Li} (h : riB x = true) (ho : ∀ y ∈ x.i, y.o.length = 16) : (liW x).length = 28 + (16 + szL x) * x.i.length ∧ 45 ≤ (liW x).length := by
  have h1 := body_len h ho
  have h2 := nmL_length x.k (ri_kind h).1
  have h3 := (ri_all h).2
  have h4 := ri_kind h
  have e : (liW x).length = 28 + (16 + szL x) * x.i.length := by
    unfold liW
    rw [List.length_append, List.length_append, List.length_append, List.length_append, lowN_length, lowN_length, lowN_length, h1, h2, Nat.mul_comm]
    omega
  refine ⟨e, ?_⟩
  rw [e]
  have : (16 + szL x) * 1 ≤ (16 + szL x) * x.i.length := Nat.mul_le_mul (Nat.le_refl _) h3
  omega
theorem n4_lit {l a r : List UInt8} {X p : Nat} (h : l = a ++ (lowN X 4 ++ r)) (hp : a.length = p) (hX : X < 4294967296) : n4 l p = X := by
  subst h hp
  unfold n4
  rw [List.drop_left, List.take_left' (lowN_length X 4), numL_lowN]
  exact Nat.mod_eq_of_lt hX
theorem itsL_body (s : Nat) (t : List UInt8) : ∀ (is : List It) (a : List UInt8), (∀ y ∈ is, y.o.length = 16 ∧ y.d.length + 16 = s) → itsL (a ++ (bodyL is ++ t)) s a.length is.length = is
  | [], a, h => rfl
  | y :: is, a, h => by
    obtain ⟨ho, hd⟩ := h y (by simp)
    have e : a ++ (bodyL (y :: is) ++ t) = (a ++ y.o ++ y.d) ++ (bodyL is ++ t) := by simp [bodyL]
    have e2 : a ++ (bodyL (y :: is) ++ t) = a ++ (y.o ++ (y.d ++ (bodyL is ++ t))) := by simp [bodyL]
    rw [List.length_cons]
    unfold itsL
    congr 1
    · unfold itL
      rw [e2, List.drop_left, List.take_left' ho, show a ++ (y.o ++ (y.d ++ (bodyL is ++ t))) = (a ++ y.o) ++ (y.d ++ (bodyL is ++ t)) by simp, show a.length + 16 = (a ++ y.o).length by simp [ho], List.drop_left, List.take_left' (by omega)]
    · have := itsL_body s t is (a ++ y.o ++ y.d) (fun z hz => h z (by simp [hz]))
      rw [e, show a.length + s = (a ++ y.o ++ y.d).length by simp [ho]; omega]
      exact this

/-- A list's bytes with others behind: that list is read. -/
theorem head_liW (x : Li) (t : List UInt8) (h : riB x = true) (ho : ∀ y ∈ x.i, y.o.length = 16) (hT : (liW x).length < 4294967296) :
    okB (liW x ++ t) = true ∧ li1 (liW x ++ t) = x ∧ n4 (liW x ++ t) 16 = (liW x).length := by
  obtain ⟨hlen, h45⟩ := liW_len h ho
  obtain ⟨hk, hs1, hs2⟩ := ri_kind h
  obtain ⟨hall, hpos⟩ := ri_all h
  have hnm := nmL_length x.k hk
  obtain ⟨S, hS⟩ : ∃ S, S = 16 + szL x := ⟨_, rfl⟩
  obtain ⟨M, hM⟩ : ∃ M, M = 28 + S * x.i.length := ⟨_, rfl⟩
  have e0 : liW x ++ t = nmL x.k ++ (lowN M 4 ++ (lowN 0 4 ++ (lowN S 4 ++ (bodyL x.i ++ t)))) := by rw [hM, hS]; unfold liW; simp
  have hlM : (liW x).length = M := by rw [hM, hS]; exact hlen
  have e1 : (liW x ++ t).take 16 = nmL x.k := by rw [e0, List.take_left' hnm]
  have e2 : n4 (liW x ++ t) 16 = M := n4_lit e0 hnm (by omega)
  have e3 : n4 (liW x ++ t) 20 = 0 := n4_lit (a := nmL x.k ++ lowN M 4) (r := lowN S 4 ++ (bodyL x.i ++ t)) (by rw [e0]; simp) (by simp [hnm, lowN_length]) (by omega)
  have e4 : n4 (liW x ++ t) 24 = S := n4_lit (a := nmL x.k ++ (lowN M 4 ++ lowN 0 4)) (r := bodyL x.i ++ t) (by rw [e0]; simp) (by simp [hnm, lowN_length]) (by omega)
  have e5 : kd (liW x ++ t) = x.k := by unfold kd; rw [e1]; exact kdL_nmL x.k hk
  have hcnt : cnt (liW x ++ t) = x.i.length := by
    unfold cnt
    rw [e2, e4, hM, Nat.add_sub_cancel_left, Nat.mul_div_cancel_left _ (by omega)]
  have e6 : itsL (liW x ++ t) S 28 x.i.length = x.i := by
    have := itsL_body S t x.i (nmL x.k ++ (lowN M 4 ++ (lowN 0 4 ++ lowN S 4))) (fun y hy => ⟨ho y hy, by have := (hall y hy).2; omega⟩)
    rw [show (nmL x.k ++ (lowN M 4 ++ (lowN 0 4 ++ lowN S 4))).length = 28 by simp [hnm, lowN_length]] at this
    rw [show liW x ++ t = nmL x.k ++ (lowN M 4 ++ (lowN 0 4 ++ lowN S 4)) ++ (bodyL x.i ++ t) by rw [e0]; simp]
    exact this
  have hhd : hdP (liW x ++ t) := by
    refine ⟨by rw [List.length_append]; omega, ?_, e3, by omega, by omega, by rw [e2, List.length_append]; omega, ?_, ?_⟩
    · rw [e1, kdL_nmL x.k hk]; omega
    · rw [e2, e4, hM]
      have : S * 1 ≤ S * x.i.length := Nat.mul_le_mul (Nat.le_refl _) hpos
      omega
    · rw [e2, e4, hM, Nat.add_sub_cancel_left, Nat.mul_mod_right]
  refine ⟨?_, ?_, by rw [e2, hlM]⟩
  · unfold okB
    rw [decide_eq_true hhd, e4, hcnt, e6, e5, Bool.true_and, List.all_eq_true]
    exact fun y hy => (hall y hy).1
  · unfold li1
    rw [e4, hcnt, e6, e5]
theorem liW_ne {x : Li} (t : List UInt8) (h : 45 ≤ (liW x).length) : liW x ++ t ≠ [] := by
  intro e
  have := congrArg List.length e
  rw [List.length_append, List.length_nil] at this
  omega
theorem rd_head (x : Li) (t : List UInt8) (h : riB x = true) (ho : ∀ y ∈ x.i, y.o.length = 16) (hT : (liW x).length < 4294967296) : rdLs (liW x ++ t) = (rdLs t).map (x :: ·) := by
  obtain ⟨h1, h2, h3⟩ := head_liW x t h ho hT
  rw [rdLs_step _ (liW_ne t (liW_len h ho).2), h1, if_pos rfl, h2, h3, List.drop_left]
theorem wrB_cons {x : Li} {L : List Li} : wrB (x :: L) = true ↔ riB x = true ∧ wrB L = true := by unfold wrB; rw [List.all_cons, Bool.and_eq_true]
theorem lsW_cons (x : Li) (L : List Li) : lsW (x :: L) = liW x ++ lsW L := by unfold lsW; simp
/-- WHAT IS WRITTEN IS READ. -/
theorem rd_wr : ∀ (L : List Li) (t : List UInt8), wrB L = true → OwnO L → (lsW L).length < 4294967296 → rdLs (lsW L ++ t) = (rdLs t).map (L ++ ·)
  | [], t, _, _, _ => by show rdLs t = _; cases rdLs t <;> rfl
  | x :: L, t, h, ho, hl => by
    rw [wrB_cons] at h
    rw [lsW_cons, List.length_append] at hl
    rw [lsW_cons, List.append_assoc, rd_head x _ h.1 (ho x (by simp)) (by omega), rd_wr L t h.2 (fun z hz => ho z (by simp [hz])) (by omega)]
    cases rdLs t <;> rfl
theorem rd_wr0 (L : List Li) (h : wrB L = true) (ho : OwnO L) (hl : (lsW L).length < 4294967296) : rdLs (lsW L) = some L := by
  have := rd_wr L [] h ho hl
  rw [List.append_nil, rdLs_nil, Option.map_some, List.append_nil] at this
  exact this

/-! ### What is read is written as it was -/
theorem lowN_numL (q : List UInt8) (h : q.length = 4) : lowN (numL q) 4 = q := by
  refine numL_inj _ _ (by rw [lowN_length, h]) ?_
  rw [numL_lowN]
  have := numL_lt q
  rw [h] at this
  exact Nat.mod_eq_of_lt this
theorem lowN_n4 {l : List UInt8} {p : Nat} (h : p + 4 ≤ l.length) : lowN (n4 l p) 4 = (l.drop p).take 4 := lowN_numL _ (by rw [List.length_take, List.length_drop]; omega)
theorem itL_len {l : List UInt8} {p s : Nat} (hs : 16 ≤ s) (h : p + s ≤ l.length) : (itL l p s).o.length = 16 ∧ (itL l p s).d.length = s - 16 := by
  unfold itL
  refine ⟨?_, ?_⟩
  · rw [List.length_take, List.length_drop]; omega
  · rw [List.length_take, List.length_drop]; omega
theorem itsL_len {l : List UInt8} {s : Nat} (hs : 16 ≤ s) : ∀ (n p : Nat), p + s * n ≤ l.length → ∀ y ∈ itsL l s p n, y.o.length = 16 ∧ y.d.length = s - 16
  | 0, p, h, y, hy => by simp [itsL] at hy
  | n + 1, p, h, y, hy => by
    rw [Nat.mul_succ] at h
    unfold itsL at hy
    rcases List.mem_cons.1 hy with rfl | hy
    · exact itL_len hs (by omega)
    · exact itsL_len hs n (p + s) (by omega) y hy
theorem itsL_bodyL {l : List UInt8} {s : Nat} (hs : 16 ≤ s) : ∀ (n p : Nat), bodyL (itsL l s p n) = (l.drop p).take (s * n)
  | 0, p => by simp [itsL, bodyL]
  | n + 1, p => by
    have ih := itsL_bodyL (l := l) hs n (p + s)
    unfold bodyL at ih
    unfold itsL bodyL
    rw [List.flatMap_cons, ih]
    unfold itL
    show (l.drop p).take 16 ++ (l.drop (p + 16)).take (s - 16) ++ _ = _
    rw [show s * (n + 1) = (16 + (s - 16)) + s * n by rw [Nat.mul_succ]; omega, List.take_add, List.take_add, List.drop_drop, List.drop_drop, show p + (16 + (s - 16)) = p + s by omega]
theorem szL_eq {x : Li} {s : Nat} (h : ∀ y ∈ x.i, y.d.length = s) (hp : 0 < x.i.length) : szL x = s := by
  unfold szL
  cases e : x.i with
  | nil => rw [e] at hp; cases hp
  | cons y t => exact h y (by rw [e]; simp)
theorem li1_ok {l : List UInt8} (h : okB l = true) : riB (li1 l) = true ∧ (∀ y ∈ (li1 l).i, y.o.length = 16) ∧ liW (li1 l) = l.take (n4 l 16) := by
  unfold okB at h
  rw [Bool.and_eq_true, decide_eq_true_iff, List.all_eq_true] at h
  obtain ⟨hh, hall⟩ := h
  obtain ⟨hc1, hc2⟩ := cnt_mul l hh
  obtain ⟨h1, h2, h3, h4, h5, h6, h7, h8⟩ := hh
  obtain ⟨S, hS⟩ : ∃ S, S = n4 l 24 := ⟨_, rfl⟩
  obtain ⟨M, hM⟩ : ∃ M, M = n4 l 16 := ⟨_, rfl⟩
  obtain ⟨C, hC⟩ : ∃ C, C = cnt l := ⟨_, rfl⟩
  have hi : (li1 l).i = itsL l S 28 C := by rw [hS, hC]; rfl
  have hk : (li1 l).k = kdL (l.take 16) := rfl
  rw [← hS, ← hC] at hall
  rw [← hS, ← hM, ← hC, Nat.mul_comm] at hc1
  rw [← hC] at hc2
  rw [← hS] at h4 h5
  rw [← hM] at h6 ⊢
  have hl := itsL_len (l := l) (s := S) (by omega) C 28 (by omega)
  have hil : (li1 l).i.length = C := by rw [hi, itsL_length]
  have hsz : szL (li1 l) = S - 16 := szL_eq (by rw [hi]; exact fun y hy => (hl y hy).2) (by omega)
  refine ⟨?_, by rw [hi]; exact fun y hy => (hl y hy).1, ?_⟩
  · unfold riB
    rw [Bool.and_eq_true, List.all_eq_true, decide_eq_true_iff]
    refine ⟨fun y hy => ?_, fun e => by rw [e] at hil; simp at hil; omega⟩
    rw [hi] at hy
    rw [Bool.and_eq_true, decide_eq_true_iff, hsz]
    exact ⟨hall y hy, (hl y hy).2⟩
  · unfold liW
    rw [hk, nmL_kdL _ h2, hsz, hil, hi, itsL_bodyL (by omega), show 16 + (S - 16) = S by omega, hc1, hM, hS, lowN_n4 (by omega), lowN_n4 (by omega), ← h3, lowN_n4 (by omega)]
    rw [← hM, ← hS, ← hc1, show 28 + S * C = 16 + (4 + (4 + (4 + S * C))) by omega, List.take_add, List.take_add, List.take_add, List.take_add, List.drop_drop, List.drop_drop, List.drop_drop]
theorem rdN_wr : ∀ (n : Nat) (l : List UInt8) (L : List Li), rdN n l = some L → lsW L = l ∧ wrB L = true ∧ OwnO L
  | 0, [], L, h => by
    unfold rdN at h
    cases h
    exact ⟨rfl, rfl, fun x hx => by simp at hx⟩
  | n + 1, [], L, h => by
    unfold rdN at h
    cases h
    exact ⟨rfl, rfl, fun x hx => by simp at hx⟩
  | 0, c :: l, L, h => by
    unfold rdN at h
    cases h
  | n + 1, c :: l, L, h => by
    unfold rdN at h
    by_cases hk : okB (c :: l) = true
    · rw [if_pos hk] at h
      obtain ⟨t, ht, rfl⟩ := Option.map_eq_some_iff.1 h
      obtain ⟨h1, h2, h3⟩ := rdN_wr n _ _ ht
      obtain ⟨g1, g2, g3⟩ := li1_ok hk
      refine ⟨?_, wrB_cons.2 ⟨g1, h2⟩, fun x hx => ?_⟩
      · rw [lsW_cons, h1, g3, List.take_append_drop]
      · rcases List.mem_cons.1 hx with rfl | hx
        · exact g2
        · exact h3 x hx
    · rw [if_neg hk] at h
      cases h
/-- WHAT IS READ IS WRITTEN AS IT WAS. -/
theorem wr_rd {l : List UInt8} {L : List Li} (h : rdLs l = some L) : lsW L = l ∧ wrB L = true ∧ OwnO L := rdN_wr _ l L h

/-! ### Beginnings -/
theorem okB_short {l : List UInt8} {k : Nat} (h : k < n4 l 16) (hk : k ≤ l.length) : okB (l.take k) = false := by
  unfold okB
  rw [Bool.and_eq_false_iff]
  left
  rw [decide_eq_false_iff_not]
  rintro ⟨h1, h2, h3, h4, h5, h6, h7, h8⟩
  rw [List.length_take] at h1 h6
  have : n4 (l.take k) 16 = n4 l 16 := by
    unfold n4
    rw [List.drop_take, List.take_take, Nat.min_eq_left (by omega)]
  omega
theorem rd_prefix : ∀ (L : List Li) (k : Nat), wrB L = true → OwnO L → (lsW L).length < 4294967296 → k ≤ (lsW L).length →
    (∃ i, i ≤ L.length ∧ k = (lsW (L.take i)).length ∧ rdLs ((lsW L).take k) = some (L.take i)) ∨ ((∀ i, i ≤ L.length → (lsW (L.take i)).length ≠ k) ∧ rdLs ((lsW L).take k) = none)
  | [], k, _, _, _, hk => by
    have : k = 0 := by simpa [lsW] using hk
    subst this
    exact .inl ⟨0, Nat.le_refl _, rfl, rfl⟩
  | x :: L, k, h, ho, hl, hk => by
    rw [wrB_cons] at h
    rw [lsW_cons, List.length_append] at hl hk
    have hox := ho x (by simp)
    have hol : OwnO L := fun z hz => ho z (by simp [hz])
    have h45 := (liW_len h.1 hox).2
    rcases Nat.eq_zero_or_pos k with rfl | hpos
    · exact .inl ⟨0, Nat.zero_le _, rfl, rfl⟩
    · by_cases hlt : k < (liW x).length
      · right
        refine ⟨fun i hi => ?_, ?_⟩
        · cases i with
          | zero => exact fun e => by simp [lsW] at e; omega
          | succ i =>
            rw [List.take_succ_cons, lsW_cons, List.length_append]
            omega
        · have h3 := (head_liW x (lsW L) h.1 hox (by omega)).2.2
          rw [lsW_cons]
          refine rdLs_step_none ?_ (okB_short (by rw [h3]; exact hlt) (by rw [List.length_append]; omega))
          intro e
          have := congrArg List.length e
          rw [List.length_take, List.length_append, List.length_nil] at this
          omega
      · have e1 : (lsW (x :: L)).take k = liW x ++ (lsW L).take (k - (liW x).length) := by
          rw [lsW_cons, List.take_append, List.take_of_length_le (by omega)]
        have e2 := rd_head x ((lsW L).take (k - (liW x).length)) h.1 hox (by omega)
        rw [e1, e2]
        rcases rd_prefix L (k - (liW x).length) h.2 hol (by omega) (by omega) with ⟨i, hi, hki, hr⟩ | ⟨hne, hr⟩
        · left
          refine ⟨i + 1, by rw [List.length_cons]; omega, ?_, ?_⟩
          · rw [List.take_succ_cons, lsW_cons, List.length_append, ← hki]; omega
          · rw [hr, Option.map_some, List.take_succ_cons]
        · right
          refine ⟨fun i hi => ?_, by rw [hr]; rfl⟩
          cases i with
          | zero => exact fun e => by simp [lsW] at e; omega
          | succ i =>
            rw [List.length_cons] at hi
            have := hne i (by omega)
            rw [List.take_succ_cons, lsW_cons, List.length_append]
            omega
theorem lsW_lt : ∀ (L : List Li) (i j : Nat), wrB L = true → OwnO L → i < j → j ≤ L.length → (lsW (L.take i)).length < (lsW (L.take j)).length
  | [], i, j, _, _, hij, hj => by simp at hj; omega
  | x :: L, i, 0, _, _, hij, hj => by omega
  | x :: L, 0, j + 1, h, ho, hij, hj => by
    rw [wrB_cons] at h
    have h45 := (liW_len h.1 (ho x (by simp))).2
    rw [List.take_succ_cons, lsW_cons, List.length_append]
    show 0 < _
    omega
  | x :: L, i + 1, j + 1, h, ho, hij, hj => by
    rw [wrB_cons] at h
    have := lsW_lt L i j h.2 (fun z hz => ho z (by simp [hz])) (by omega) (by rw [List.length_cons] at hj; omega)
    rw [List.take_succ_cons, List.take_succ_cons, lsW_cons, lsW_cons, List.length_append, List.length_append]
    omega
theorem wrB_take {L : List Li} (h : wrB L = true) (n : Nat) : wrB (L.take n) = true := by
  unfold wrB at h ⊢
  rw [List.all_eq_true] at h ⊢
  exact fun x hx => h x (List.mem_of_mem_take hx)
end Go.Proofs.Ytilanncobbdlfaa
