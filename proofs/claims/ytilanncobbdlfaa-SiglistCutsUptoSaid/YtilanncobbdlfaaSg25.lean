/-
  Small laws of the walk of Cuts: lists and bytes cut, a row of numbers, which of the ends it is.
-/
import Derived.Test.YtilanncobbdlfaaSg23
import Derived.Test.YtilanncobbdlfaaSg24
namespace Go.Proofs.Ytilanncobbdlfaa
open Go Go.RowKit
set_option linter.unusedVariables false

theorem lisC_app (a b : List LiV) : lisC (a ++ b) = lisC a ++ lisC b := by unfold lisC; simp
theorem run_cutL (W : World) (s : Option Addr) (m c q : Nat) (hq : q ≤ m) (hm : m ≤ c) :
    (Instr.sliceAt 29 (.slice s m c) none (some (.int .i64 (q : Int))) none).run Try.prog W = .ok (.slice (s.map fun a => if c = 0 then a else a.add 0) q c) W := by
  obtain ⟨i, hi, hz0, hz1, hz2⟩ := info_parts infoL
  have b2 : (0 : Int) ≤ (q : Int) ∧ (q : Int) ≤ (c : Int) := by omega
  have b3 : q ≤ c := by omega
  cases s with
  | none => simp [Instr.sliceAt, Instr.slice, Instr.sliceBounds, Instr.sliceBound, run_underlying Try.underlying29, asIntOf, b2, b3, sizeOf, typeInfo, hi, hz1]
  | some a =>
    simp [Instr.sliceAt, Instr.slice, Instr.sliceBounds, Instr.sliceBound, run_underlying Try.underlying29, asIntOf, b2, b3, sizeOf, typeInfo, hi, hz1]
    split <;> rfl
/-- l[:q]. -/
theorem lis_cut {w : World} {s : Option Addr} {m c : Nat} {xs : List LiV} (h : Lis w (.slice s m c) xs) (q : Nat) (hq : q ≤ m) :
    ∃ y, (∀ W : World, (Instr.sliceAt 29 (.slice s m c) none (some (.int .i64 (q : Int))) none).run Try.prog W = .ok (.slice y q c) W) ∧ Lis w (.slice y q c) (xs.take q) := by
  obtain ⟨s', c', e, h0, h1, h2, hc⟩ := h.row
  simp only [Value.slice.injEq] at e
  obtain ⟨rfl, hm, rfl⟩ := e
  have hql : (xs.take q).length = q := by rw [List.length_take]; omega
  refine ⟨_, fun W => run_cutL W s m c q hq (by omega), ⟨?_, fun x hx => h.kind x (List.mem_of_mem_take hx), fun x hx => h.its x (List.mem_of_mem_take hx)⟩⟩
  rw [hql]
  refine ⟨_, _, rfl, by rw [lisC_length, hql], by omega, h2, fun j u hj => ?_⟩
  have hj2 : (lisC xs)[j]? = some u := by
    rw [← List.take_append_drop q xs, lisC_app, List.getElem?_append_left (List.getElem?_eq_some_iff.1 hj).1]
    exact hj
  obtain ⟨b, off, e, hcell⟩ := hc j u hj2
  subst e
  refine ⟨b, off, ?_, hcell⟩
  simp only [Option.map_some, add0, Nat.add_zero]
  split <;> rfl
/-- b[:q]. -/
theorem byt_cutn {w : World} {s : Option Addr} {m c : Nat} {d : List UInt8} (h : Byt w (.slice s m c) d) (hm : m = d.length) (q : Nat) (hq : q ≤ m) :
    ∃ y, (∀ W : World, (Instr.sliceAt 22 (.slice s m c) none (some (.int .i64 (q : Int))) none).run Try.prog W = .ok (.slice y q c) W) ∧ Byt w (.slice y q c) (d.take q) := by
  subst hm
  obtain ⟨s', c', e, h1, h2, hc⟩ := h.open
  simp only [Value.slice.injEq] at e
  obtain ⟨rfl, _, rfl⟩ := e
  refine ⟨_, fun W => run_cut W s d.length c q (by omega) h1, ?_⟩
  have hs : s.map (fun a => if c = 0 then a else a.add 0) = s ∨ d = [] := by
    cases hd : d with
    | nil => exact .inr rfl
    | cons x l =>
      left
      obtain ⟨b, off, e, _⟩ := hc 0 (by rw [hd]; simp)
      subst e
      simp only [Option.map_some, add0, Nat.add_zero]
      split <;> rfl
  rcases hs with e | e
  · rw [e]
    exact h.take q (by omega)
  · subst e
    have e0 : q = 0 := by simpa using hq
    subst e0
    exact Byt.of (by simp) (by omega) h2 (fun i hi => by simp at hi)

theorem infoN : (Try.prog.info? 3).map (fun i => (i.zero, i.size, i.bytes)) = some (some (.int .i64 0), 1, 8) := by kernel_rfl
section
variable {ops : Array Oper} {rest : List Oper} {o : Oper} {a : Act} {w : World} {Q : Exit → Act → World → Prop}
theorem wpList_append_int (hgd : o.guard = none) (s x : Operand) (ho : o.op = .call { callee := .builtin .append, args := #[s, x], argTypes := #[44, 44] })
    (base : Nat) (v : Value) (n : Nat) (xs : List Value) (hs : a.eval s = v) (hown : Own w base 3 1 v n xs) (y : Value) (news : List Value) (hxe : a.eval x = y) (hx : Rd w 1 y 1 news) (h1 : ∀ u ∈ news, u.oneCell' = true)
    (hn : n ≤ 1000000000) (hbase : base ≤ w.heap.size)
    (h : ∀ v' w', Own w' base 3 1 v' (n + 1) (xs ++ news) → w.grownBy w' (ownB v) → (ownB v' = ownB v ∨ ∃ g, ownB v' = some g ∧ w.heap.size ≤ g) → wpList Try.prog ops Q rest (a.put o.dst v') w') : wpList Try.prog ops Q (o :: rest) a w :=
  wpList_append_rd w hgd s x 44 ho base 3 _ 1 8 Try.underlying44 infoN rfl (by decide) v n xs hs hown y 1 news hxe hx h1 (by unfold maxLen; omega) (by omega) hbase
    fun v' w' h2 h3 h4 _ => h v' w' h2 h3 h4
end
/-- The ends of the first j lists, as values. -/
def endsV (L : List Li) (j : Nat) : List Value := (List.range j).map fun r => .int .i64 ((lsW (L.take r)).length : Int)
theorem endsV_length (L : List Li) (j : Nat) : (endsV L j).length = j := by simp [endsV]
theorem endsV_snoc (L : List Li) (j : Nat) : endsV L (j + 1) = endsV L j ++ [.int .i64 ((lsW (L.take j)).length : Int)] := by simp [endsV, List.range_succ]
theorem endsV_at {L : List Li} {j r : Nat} (h : r < j) : (endsV L j)[r]? = some (.int .i64 ((lsW (L.take r)).length : Int)) := by
  unfold endsV
  rw [List.getElem?_map, List.getElem?_range h]
  rfl
theorem ends_cell {w : World} {base e g n cap : Nat} {xs : List Value} (h : Own w base e 1 (.slice (some ⟨g, 0, none⟩) n cap) n xs) {i : Nat} {u : Value} (hu : xs[i]? = some u) : w.cell? ⟨g, i, none⟩ = some u := by
  obtain ⟨a, c, e, _, _, _, hc⟩ := h.rd
  simp only [Value.slice.injEq] at e
  obtain ⟨rfl, _, _⟩ := e
  obtain ⟨b, off, e2, h2⟩ := hc i u hu
  cases e2
  rw [Nat.zero_add] at h2
  exact h2
/-- Which of the first j ends it is: z. -/
def WH (L : List Li) (k j : Nat) (z : Int) : Prop := (z = -1 ∧ ∀ r, r < j → (lsW (L.take r)).length ≠ k) ∨ (∃ r : Nat, r < j ∧ z = (r : Int) ∧ (lsW (L.take r)).length = k)
theorem WH.zero (L : List Li) (k : Nat) : WH L k 0 (-1) := .inl ⟨rfl, fun r hr => absurd hr (Nat.not_lt_zero _)⟩
theorem WH.hit {L : List Li} {k j : Nat} (h : (lsW (L.take j)).length = k) : WH L k (j + 1) (j : Int) := .inr ⟨j, by omega, rfl, h⟩
theorem WH.miss {L : List Li} {k j : Nat} {z : Int} (h : WH L k j z) (hn : (lsW (L.take j)).length ≠ k) : WH L k (j + 1) z := by
  rcases h with ⟨e, h⟩ | ⟨r, hr, e, h⟩
  · refine .inl ⟨e, fun r hr => ?_⟩
    by_cases e2 : r = j
    · subst e2; exact hn
    · exact h r (by omega)
  · exact .inr ⟨r, by omega, e, h⟩
/-- What Read says of a beginning. -/
theorem cut_reads {L : List Li} (h : wrB L = true) (ho : OwnO L) (hl : (lsW L).length ≤ 65536) {k : Nat} (hk : k ≤ (lsW L).length) {z : Int} (hz : WH L k (L.length + 1) z) :
    (z = -1 ∧ resE ((lsW L).take k) = 9) ∨ (∃ r : Nat, r ≤ L.length ∧ z = (r : Int) ∧ resE ((lsW L).take k) = 0 ∧ resL ((lsW L).take k) = L.take r) := by
  have hlen : ¬ 65536 < ((lsW L).take k).length := by rw [List.length_take]; omega
  rcases rd_prefix L k h ho (by omega) hk with ⟨i, hi, hki, hr⟩ | ⟨hne, hr⟩
  · right
    rcases hz with ⟨_, hz⟩ | ⟨r, hrl, e, hre⟩
    · exact absurd hki.symm (hz i (by omega))
    · have : r = i := by
        rcases Nat.lt_trichotomy r i with hlt | e | hlt
        · have := lsW_lt L r i h ho hlt hi; omega
        · exact e
        · have := lsW_lt L i r h ho hlt (by omega); omega
      subst this
      refine ⟨r, hi, e, ?_, ?_⟩
      · unfold resE; rw [if_neg hlen, hr]; rfl
      · unfold resL; rw [if_neg hlen, hr]; rfl
  · left
    rcases hz with ⟨e, _⟩ | ⟨r, hrl, e, hre⟩
    · refine ⟨e, ?_⟩
      unfold resE; rw [if_neg hlen, hr]; rfl
    · exact absurd hre (hne r (by omega))
/-- Other bytes are other lists, or none. -/
theorem turned_reads {L : List Li} {c : List UInt8} (hc : c ≠ lsW L) (he : resE c = 0) : decide (resL c = L) = false := by
  rw [decide_eq_false_iff_not]
  intro e
  unfold resE at he
  unfold resL at e
  split at he
  · cases he
  · rename_i hlen
    rw [if_neg hlen] at e
    cases h : rdLs c with
    | none => rw [h] at he; cases he
    | some M =>
      rw [h] at e
      have e2 : M = L := e
      subst e2
      exact hc (wr_rd h).1.symm
theorem wrE_zero {L : List Li} (h : wrE L = 0) : wrB L = true ∧ (lsW L).length ≤ 65536 ∧ wrR L = lsW L := by
  unfold wrE at h
  unfold wrR
  split at h
  · rename_i hb
    split at h
    · rename_i hl
      exact ⟨hb, hl, by rw [if_pos hb, if_pos hl]⟩
    · cases h
  · cases h
theorem wrE_of {L : List Li} (h : wrB L = true) (hl : (lsW L).length ≤ 65536) : wrE L = 0 ∧ wrR L = lsW L := by
  unfold wrE wrR
  rw [if_pos h, if_pos hl, if_pos h, if_pos hl]
  exact ⟨rfl, rfl⟩
theorem OwnO.of {w : World} {v : Value} {xs : List LiV} {L : List Li} (h : Lis w v xs) (e : xs.map LiV.li = L) : OwnO L := by
  subst e
  intro x hx y hy
  obtain ⟨u, hu, rfl⟩ := List.mem_map.1 hx
  obtain ⟨z, hz, rfl⟩ := List.mem_map.1 (show y ∈ u.i.map ItV.it from hy)
  exact (h.its u hu).len z hz
end Go.Proofs.Ytilanncobbdlfaa
