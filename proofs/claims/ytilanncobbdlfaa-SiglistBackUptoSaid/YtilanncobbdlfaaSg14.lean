/-
  bytes.Equal, same, twin; bytes cut to their first ones.
-/
import Derived.Test.YtilanncobbdlfaaSg13
namespace Go.Proofs.Ytilanncobbdlfaa
open Go Go.RowKit
set_option linter.unusedVariables false

set_option maxHeartbeats 400000 in
theorem bytesEqual_calls (v1 v2 : Value) (l1 l2 : List UInt8) (w : World) (h1 : Byt w v1 l1) (h2 : Byt w v2 l2) :
    Calls Try.prog 34 #[v1, v2] w fun e w' => e = .returned (.bool (decide (l1 = l2))) ∧ w = w' := by
  have c1 := run_tostring (P := Try.prog) h1 22 9 5 Try.underlying22 Try.underlying5 Try.underlying9
  have c2 := run_tostring (P := Try.prog) h2 22 9 5 Try.underlying22 Try.underlying5 Try.underlying9
  go_enter Try.func34, Try.ntmps34
  go_wp2
  go_ret
  exact ⟨by simp [sOf_beq], rfl⟩
set_option maxHeartbeats 400000 in
theorem same_calls (v1 v2 : Value) (l1 l2 : List UInt8) (w : World) (h1 : Byt w v1 l1) (h2 : Byt w v2 l2) :
    Calls Try.prog 13 #[v1, v2] w fun e w' => e = .returned (.bool (decide (l1 = l2))) ∧ w = w' := by
  have c1 := run_tostring (P := Try.prog) h1 22 9 5 Try.underlying22 Try.underlying5 Try.underlying9
  have c2 := run_tostring (P := Try.prog) h2 22 9 5 Try.underlying22 Try.underlying5 Try.underlying9
  go_enter Try.func13, Try.ntmps13
  go_wp2
  go_ret
  exact ⟨by simp [sOf_beq], rfl⟩
theorem same_form (l1 l2 : List UInt8) (b : Bool) (h : decide (l1 = l2) = b) (v1 v2 : Value) (w : World) (h1 : Byt w v1 l1) (h2 : Byt w v2 l2) :
    Calls Try.prog 13 #[v1, v2] w fun e w' => e = .returned (.bool b) ∧ w = w' := by
  rw [← h]
  exact same_calls v1 v2 l1 l2 w h1 h2
set_option maxHeartbeats 400000 in
theorem twin_calls (v : Value) (l : List UInt8) (w : World) (h : Byt w v l) (hl : l.length ≤ 140737488355328) :
    Calls Try.prog 10 #[v] w fun e w' => ∃ v', e = .returned v' ∧ OwnB w' w.heap.size v' l ∧ Below w.heap.size w w' := by
  have HB0 := Lib.hid ((Below.refl w.heap.size w).alloc (Nat.le_refl _) (.cells #[] 5))
  have HH := Lib.hid (h.below ((Below.refl w.heap.size w).alloc (Nat.le_refl _) (.cells #[] 5)))
  clear h
  go_enter Try.func10, Try.ntmps10
  go_wp2_with (at_builtin; refine wpList_append_byt rfl _ _ rfl w.heap.size (.slice (some ⟨w.heap.size, 0, none⟩) 0 0) [] rfl (OwnB.empty _ _ _) v l rfl HH.out (by simpa using hl) HB0.out.size ?_; intro v' w' hown hg _)
  go_ret
  exact ⟨v', rfl, by simpa using hown, HB0.out.grown hg HB0.out.size (fun k hk => by simp [ownB] at hk)⟩

/-- b[:q]. -/
theorem run_cut (W : World) (s : Option Addr) (m c q : Nat) (hq : q ≤ m) (hm : m ≤ c) :
    (Instr.sliceAt 22 (.slice s m c) none (some (.int .i64 (q : Int))) none).run Try.prog W = .ok (.slice (s.map fun a => if c = 0 then a else a.add 0) q c) W := by
  obtain ⟨i, hi, hz0, hz1, hz2⟩ := info_parts infoB
  have b2 : (0 : Int) ≤ (q : Int) ∧ (q : Int) ≤ (c : Int) := by omega
  have b3 : q ≤ c := by omega
  cases s with
  | none => simp [Instr.sliceAt, Instr.slice, Instr.sliceBounds, Instr.sliceBound, run_underlying Try.underlying22, asIntOf, b2, b3, sizeOf, typeInfo, hi, hz1]
  | some a =>
    simp [Instr.sliceAt, Instr.slice, Instr.sliceBounds, Instr.sliceBound, run_underlying Try.underlying22, asIntOf, b2, b3, sizeOf, typeInfo, hi, hz1]
    split <;> rfl
/-- b[:min(32, len(b))]. -/
theorem byt_cut {w : World} {s : Option Addr} {m c : Nat} {d : List UInt8} (h : Byt w (.slice s m c) d) (hm : m = d.length) (q : Nat) (hq : q = min 32 m) :
    ∃ y, (∀ W : World, (Instr.sliceAt 22 (.slice s m c) none (some (.int .i64 (q : Int))) none).run Try.prog W = .ok (.slice y q c) W) ∧ Byt w (.slice y q c) (d.take 32) := by
  subst hm
  obtain ⟨s', c', e, h1, h2, hc⟩ := h.open
  simp only [Value.slice.injEq] at e
  obtain ⟨rfl, _, rfl⟩ := e
  refine ⟨_, fun W => run_cut W s d.length c q (by omega) h1, ?_⟩
  have hs : s.map (fun a => if c = 0 then a else a.add 0) = s ∨ d = [] := by
    cases hd : d with
    | nil => exact .inr rfl
    | cons x l =>
      left
      obtain ⟨b, off, e, _⟩ := hc 0 (by rw [hd]; simp)
      subst e
      simp only [Option.map_some, add0, Nat.add_zero]
      split <;> rfl
  rcases hs with e | e
  · rw [e]
    have := h.take q (by omega)
    rw [show d.take q = d.take 32 by
      subst hq
      by_cases e : 32 ≤ d.length
      · rw [Nat.min_eq_left e]
      · rw [Nat.min_eq_right (by omega), List.take_length, List.take_of_length_le (by omega)]] at this
    exact this
  · subst e
    have e0 : q = 0 := by simpa using hq
    subst e0
    exact Byt.of (by simp) (by omega) h2 (fun i hi => by simp at hi)
theorem has_no {k : Int} {data : List UInt8} {xs : List LiV} (h : ∀ r x, r < xs.length → xs[r]? = some x → (decide (x.k = k) && hasI k data x.li.i) = false) : hasB (xs.map LiV.li) k data = false := by
  unfold hasB
  rw [Bool.eq_false_iff]
  intro e
  rw [List.any_eq_true] at e
  obtain ⟨y, hy, e⟩ := e
  obtain ⟨x, hx, rfl⟩ := List.mem_map.1 hy
  obtain ⟨r, hr, e2⟩ := List.getElem_of_mem hx
  have h1 := h r x hr (by rw [← e2]; exact List.getElem?_eq_getElem hr)
  have h2 : (decide (x.k = k) && hasI k data x.li.i) = true := e
  rw [h1] at h2
  cases h2
theorem hasI_no {k : Int} {data : List UInt8} {x : LiV} (h : ∀ r y, r < x.i.length → x.i[r]? = some y → decide (cutD k y.d = data) = false) : hasI k data x.li.i = false := by
  unfold hasI
  rw [Bool.eq_false_iff]
  intro e
  rw [List.any_eq_true] at e
  obtain ⟨y, hy, e⟩ := e
  obtain ⟨z, hz, rfl⟩ := List.mem_map.1 hy
  obtain ⟨r, hr, e2⟩ := List.getElem_of_mem hz
  have h1 := h r z hr (by rw [← e2]; exact List.getElem?_eq_getElem hr)
  have h2 : decide (cutD k z.d = data) = true := e
  rw [h1] at h2
  cases h2
theorem has_yes {k : Int} {data : List UInt8} {xs : List LiV} {j i : Nat} {x : LiV} {y : ItV} (h : xs[j]? = some x) (hk : x.k = k) (hy : x.i[i]? = some y) (hd : cutD k y.d = data) : hasB (xs.map LiV.li) k data = true := by
  unfold hasB
  rw [List.any_eq_true]
  refine ⟨x.li, List.mem_map.2 ⟨x, List.mem_of_getElem? h, rfl⟩, ?_⟩
  rw [Bool.and_eq_true]
  refine ⟨decide_eq_true hk, ?_⟩
  unfold hasI
  rw [List.any_eq_true]
  exact ⟨y.it, List.mem_map.2 ⟨y, List.mem_of_getElem? hy, rfl⟩, decide_eq_true hd⟩
end Go.Proofs.Ytilanncobbdlfaa
