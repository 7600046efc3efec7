/-
  Read and Has as the laws take them: the lists of bytes are no more than the bytes.
-/
import Derived.Test.YtilanncobbdlfaaSg18
namespace Go.Proofs.Ytilanncobbdlfaa
open Go Go.RowKit
set_option linter.unusedVariables false

theorem cnt_le (l : List UInt8) (h : okB l = true) : cnt l ≤ l.length := by
  unfold okB at h
  rw [Bool.and_eq_true, decide_eq_true_iff] at h
  have h1 := (cnt_mul l h.1).1
  obtain ⟨⟨h2, h3, h4, h5, h6, h7, h8, h9⟩, _⟩ := h
  have : cnt l * 1 ≤ cnt l * n4 l 24 := Nat.mul_le_mul (Nat.le_refl _) (by omega)
  omega
theorem rdN_bound : ∀ (n : Nat) (l : List UInt8) (ls : List Li), rdN n l = some ls → ls.length ≤ l.length ∧ ∀ x ∈ ls, x.i.length ≤ l.length
  | 0, [], ls, h => by
    unfold rdN at h
    cases h
    exact ⟨Nat.le_refl _, fun x hx => by simp at hx⟩
  | n + 1, [], ls, h => by
    unfold rdN at h
    cases h
    exact ⟨Nat.le_refl _, fun x hx => by simp at hx⟩
  | 0, c :: l, ls, h => by
    unfold rdN at h
    cases h
  | n + 1, c :: l, ls, h => by
    unfold rdN at h
    by_cases hk : okB (c :: l) = true
    · rw [if_pos hk] at h
      obtain ⟨t, ht, rfl⟩ := Option.map_eq_some_iff.1 h
      obtain ⟨h1, h2⟩ := rdN_bound n _ _ ht
      have h3 := okB_len _ hk
      rw [List.length_drop] at h1 h2
      refine ⟨by rw [List.length_cons]; omega, fun x hx => ?_⟩
      rcases List.mem_cons.1 hx with rfl | hx
      · show (itsL _ _ _ _).length ≤ _
        rw [itsL_length]
        exact cnt_le _ hk
      · have := h2 x hx
        omega
    · rw [if_neg hk] at h
      cases h
theorem resL_bound (l : List UInt8) : (resL l).length ≤ l.length ∧ ∀ x ∈ resL l, x.i.length ≤ l.length := by
  unfold resL
  split
  · exact ⟨Nat.zero_le _, fun x hx => by simp at hx⟩
  · cases h : rdLs l with
    | none => exact ⟨Nat.zero_le _, fun x hx => by simp at hx⟩
    | some ls => exact rdN_bound _ l ls h
/-- Lists that are no more than so many, each of no more than so many items. -/
def LisN (xs : List LiV) (n : Nat) : Prop := xs.length ≤ n ∧ ∀ x ∈ xs, x.i.length ≤ n
theorem lisN_of {xs : List LiV} {L : List Li} {n : Nat} (h : xs.map LiV.li = L) (hL : L.length ≤ n ∧ ∀ x ∈ L, x.i.length ≤ n) : LisN xs n := by
  subst h
  refine ⟨by simpa using hL.1, fun x hx => ?_⟩
  have := hL.2 x.li (List.mem_map.2 ⟨x, hx, rfl⟩)
  simpa [LiV.li] using this
/-- Read's answer, opened. -/
def RdForm (L : List Li) (E : Int) (n : Nat) (w : World) (e : Ending) (w' : World) : Prop := ∃ a m c xs, e = .returned (.tuple #[.slice a m c, .int .i64 E]) ∧ OwnLis w' w.heap.size (.slice a m c) xs ∧ xs.map LiV.li = L ∧ LisN xs n ∧ m ≤ n ∧ Below w.heap.size w w'
theorem rd_form {f : FuncId} {v : Value} {l : List UInt8} {w : World} (h : Calls Try.prog f #[v] w (RsRes l w)) (L : List Li) (hL : L = resL l) (E : Int) (hE : E = resE l) (n : Nat) (hn : l.length ≤ n) : Calls Try.prog f #[v] w (RdForm L E n w) := by
  subst hL hE
  refine h.mono fun e w' hr => ?_
  unfold RsRes at hr
  obtain ⟨v', xs, rfl, hm, ho, hb⟩ := hr
  obtain ⟨a, c, rfl, _, _⟩ := ho.lis.open
  have hb2 := resL_bound l
  have hN : LisN xs n := lisN_of hm ⟨Nat.le_trans hb2.1 hn, fun x hx => Nat.le_trans (hb2.2 x hx) hn⟩
  exact ⟨a, _, c, xs, rfl, ho, hm, hN, hN.1, hb⟩
/-- The same lists have the same. -/
theorem has_form (v : Value) (xs : List LiV) (L : List Li) (K : Int) (q : Value) (data : List UInt8) (B : Bool) (w : World) (hL : xs.map LiV.li = L) (hB : B = hasB L K data) (hv : Lis w v xs) (hq : Byt w q data) {n : Nat} (hn : LisN xs n) (h9 : n ≤ 4000000000000000000) :
    Calls Try.prog 22 #[v, .int .u8 K, q] w fun e w' => e = .returned (.bool B) ∧ Below w.heap.size w w' := by
  subst hL hB
  exact sgHas_calls v xs K q data w hv hq (Nat.le_trans hn.1 h9) (fun x hx => Nat.le_trans (hn.2 x hx) h9)
theorem refHas_form (v : Value) (xs : List LiV) (L : List Li) (K : Int) (q : Value) (data : List UInt8) (B : Bool) (w : World) (hL : xs.map LiV.li = L) (hB : B = hasB L K data) (hv : Lis w v xs) (hq : Byt w q data) {n : Nat} (hn : LisN xs n) (h9 : n ≤ 1000000000) :
    Calls Try.prog 23 #[v, .int .u8 K, q] w fun e w' => e = .returned (.bool B) ∧ w = w' := by
  subst hL hB
  exact refHasL_calls v xs K q data w hv hq (Nat.le_trans hn.1 h9) (fun x hx => Nat.le_trans (hn.2 x hx) h9)
theorem sameLists_form (v u : Value) (xs ys : List LiV) (L L2 : List Li) (B : Bool) (w : World) (hB : decide (L = L2) = B) (hL : xs.map LiV.li = L) (hL2 : ys.map LiV.li = L2) (hv : Lis w v xs) (hu : Lis w u ys) {n : Nat} (hn : LisN xs n) (hn2 : LisN ys n) (h9 : n ≤ 1000000000) :
    Calls Try.prog 18 #[v, u] w fun e w' => e = .returned (.bool B) ∧ Below w.heap.size w w' := by
  subst hL hL2 hB
  exact sameLists_calls v u xs ys w hv hu (Nat.le_trans hn.1 h9) (Nat.le_trans hn2.1 h9) (fun x hx => Nat.le_trans (hn.2 x hx) h9) (fun x hx => Nat.le_trans (hn2.2 x hx) h9)
end Go.Proofs.Ytilanncobbdlfaa
