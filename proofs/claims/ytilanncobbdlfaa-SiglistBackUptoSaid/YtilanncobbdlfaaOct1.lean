/-
  Contracts of octet's small functions: sized, within, the two orders, Clone, Cut; and the document's own.
-/
import Derived.Test.YtilanncobbdlfaaBase
import Derived.Test.YtilanncobbdlfaaOctPlain
namespace Go.Proofs.Ytilanncobbdlfaa
open Go Go.RowKit

/-- The slice value reads the integers zs. -/
def Ints (w : World) (v : Value) (zs : List Int) : Prop :=
  ∃ b off cap, v = .slice (some ⟨b, off, none⟩) zs.length cap ∧ zs.length ≤ 1000 ∧ ∀ i, i < zs.length → w.cell? ⟨b, off + i, none⟩ = some (.int .i64 (zs.getD i 0))

set_option maxHeartbeats 400000 in
theorem index_calls (v : Value) (zs : List Int) (n : Int) (w : World) (hv : Ints w v zs) :
    Calls Try.prog 66 #[v, .int .i64 n] w fun e w' => (∃ r : Int, -1 ≤ r ∧ (0 ≤ r ↔ n ∈ zs) ∧ e = .returned (.int .i64 r)) ∧ w = w' := by
  obtain ⟨b, off, cap, rfl, h1, h3⟩ := hv
  go_enter Try.func66, Try.ntmps66
  go_wp2
  go_loop [8] (fun i => ∃ k : Nat, k ≤ zs.length ∧ i = .int .i64 k ∧ Hid (∀ j, j < k → zs.getD j 0 ≠ n)) (fun i => zs.length - (intOf i).toNat)
  case atStart => exact ⟨0, by omega, rfl, Lib.hid (fun j hj => by omega)⟩
  case round =>
    obtain ⟨k, hk, rfl, hno⟩ := hrel
    by_cases hlt : k < zs.length
    · have hc := h3 k hlt
      clear h3
      obtain ⟨z, hz⟩ : ∃ z, Hid (z = zs.getD k 0) := ⟨_, Lib.hid rfl⟩
      rw [← hz.out] at hc
      by_cases heq : n = z
      · have hb : (n == z) = true := by simpa using heq
        have Heq := Lib.hid heq
        clear heq
        go_wp2
        go_ret
        refine ⟨⟨k, by omega, ⟨fun _ => ?_, fun _ => by omega⟩, rfl⟩, rfl⟩
        rw [Heq.out, hz.out]
        simp [List.getD, hlt]
      · have hb : (n == z) = false := by simpa using heq
        have Heq := Lib.hid heq
        clear heq
        go_wp2
        go_round
        case rel =>
          refine ⟨k + 1, by omega, by go_num, Lib.hid (fun j hj => ?_)⟩
          by_cases hjk : j < k
          · exact hno.out j hjk
          · obtain rfl : j = k := by omega
            rw [← hz.out]
            exact fun e => Heq.out e.symm
        case measure => simp [intOf]; omega
    · clear h3
      go_wp2
      go_ret
      refine ⟨⟨-1, by omega, ⟨fun h => by omega, fun h => ?_⟩, rfl⟩, rfl⟩
      obtain ⟨j, hj, e⟩ := List.mem_iff_getElem.1 h
      exact absurd (show zs.getD j 0 = n by simp [List.getD, hj, e]) (hno.out j (by omega))

set_option maxHeartbeats 400000 in
theorem contains_calls (v : Value) (zs : List Int) (n : Int) (w : World) (hv : Ints w v zs) :
    Calls Try.prog 58 #[v, .int .i64 n] w fun e w' => e = .returned (.bool (decide (n ∈ zs))) ∧ w = w' := by
  go_enter Try.func58, Try.ntmps58
  go_wp2_with (go_at_call 66; refine (index_calls v zs n _ hv).mono ?_; rintro e w1 ⟨⟨r, hr1, hr2, rfl⟩, rfl⟩; have HR := Lib.hid hr2; clear hr2)
  go_ret
  refine ⟨?_, rfl⟩
  have := HR.out
  show Ending.returned (.bool (decide (0 ≤ r))) = _
  rw [decide_eq_decide.2 this]

set_option maxHeartbeats 400000 in
theorem sized_calls (n : Int) (w : World) :
    Calls Try.prog 50 #[.int .i64 n] w fun e w' => e = .returned (.bool (sizedB n)) ∧ Below w.heap.size w w' := by
  have he : decide (n ∈ [(1 : Int), 2, 4, 8]) = sizedB n := by unfold sizedB; exact decide_eq_decide.2 (by simp)
  have HE := Lib.hid he
  clear he
  go_enter Try.func50, Try.ntmps50
  have hi : Ints (w.alloc (.cells #[.int .i64 1, .int .i64 2, .int .i64 4, .int .i64 8] 81)) (.slice (some ⟨w.heap.size, 0, none⟩) 4 4) [1, 2, 4, 8] := by
    refine ⟨w.heap.size, 0, 4, rfl, by decide, fun i hi => ?_⟩
    rw [cell_of_row _ w.heap.size (0 + i) _ _ (0, 0) (heap_alloc_new w _)]
    have : i = 0 ∨ i = 1 ∨ i = 2 ∨ i = 3 := by simp at hi; omega
    rcases this with rfl | rfl | rfl | rfl <;> rfl
  go_wp2_with (go_at_call 58; refine (contains_calls _ [1, 2, 4, 8] n _ hi).mono ?_; rintro e w1 ⟨rfl, rfl⟩; rw [HE.out])
  go_ret
  exact ⟨rfl, (Below.refl _ _).alloc (Nat.le_refl _) _⟩

set_option maxHeartbeats 400000 in
theorem within_calls (v : Value) (l : List UInt8) (p n : Int) (w : World) (hv : Byt w v l) (hp : -9223372036854775808 ≤ p ∧ p ≤ 9223372036854775807) (hn : -9223372036854775808 ≤ n ∧ n ≤ 9223372036854775807) :
    Calls Try.prog 64 #[v, .int .i64 p, .int .i64 n] w fun e w' => e = .returned (.bool (withinB l.length p n)) ∧ w = w' := by
  obtain ⟨a, cap, rfl, h1, h2, _⟩ := hv.open
  unfold maxLen at h2
  by_cases c1 : 0 ≤ p
  · by_cases c2 : 0 ≤ n
    · by_cases c3 : p ≤ (l.length : Int)
      · by_cases c4 : n ≤ (l.length : Int) - p
        · have hr : Hid (withinB l.length p n = true) := (withinB_iff _ _ _).2 ⟨c1, c2, c3, c4⟩
          go_enter Try.func64, Try.ntmps64
          go_wp2
          go_ret
          exact ⟨by rw [hr.out]; simp, rfl⟩
        · have hr : Hid (withinB l.length p n = false) := decide_eq_false (fun h => c4 h.2.2.2)
          have c4' : decide (n ≤ (l.length : Int) - p) = false := decide_eq_false c4
          go_enter Try.func64, Try.ntmps64
          go_wp2
          go_ret
          exact ⟨by rw [hr.out]; simp, rfl⟩
      · have hr : Hid (withinB l.length p n = false) := decide_eq_false (fun h => c3 h.2.2.1)
        have c3' : decide (p ≤ (l.length : Int)) = false := decide_eq_false c3
        go_enter Try.func64, Try.ntmps64
        go_wp2
        go_ret
        exact ⟨by rw [hr.out]; simp, rfl⟩
    · have hr : Hid (withinB l.length p n = false) := decide_eq_false (fun h => c2 h.2.1)
      have c2' : decide (0 ≤ n) = false := decide_eq_false c2
      go_enter Try.func64, Try.ntmps64
      go_wp2
      go_ret
      exact ⟨by rw [hr.out]; simp, rfl⟩
  · have hr : Hid (withinB l.length p n = false) := decide_eq_false (fun h => c1 h.1)
    have c1' : decide (0 ≤ p) = false := decide_eq_false c1
    go_enter Try.func64, Try.ntmps64
    go_wp2
    go_ret
    exact ⟨by rw [hr.out]; simp, rfl⟩

set_option maxHeartbeats 400000 in
theorem straight_calls (n : Int) (w : World) : Calls Try.prog 43 #[.int .i64 n] w fun e w' => e = .returned (.int .i64 n) ∧ w = w' := by
  go_enter Try.func43, Try.ntmps43
  go_wp2
  go_ret
  exact ⟨rfl, rfl⟩

set_option maxHeartbeats 400000 in
theorem clone_calls (v : Value) (l : List UInt8) (w : World) (h : Byt w v l) (hl : l.length ≤ 140737488355328) :
    Calls Try.prog 40 #[v] w fun e w' => ∃ v', e = .returned v' ∧ OwnB w' w.heap.size v' l ∧ Below w.heap.size w w' := by
  obtain ⟨a, cap, rfl, h1, h2, h3⟩ := h.open
  have hnil := @Lib.run_eql_slice_nil Try.prog
  cases a with
  | none =>
    have : l = [] := by
      cases l with
      | nil => rfl
      | cons c l => obtain ⟨_, _, e0, _⟩ := h3 0 (by simp); cases e0
    subst this
    go_enter Try.func40, Try.ntmps40
    go_wp2
    go_ret
    exact ⟨_, rfl, OwnB.empty _ _ _, Below.refl _ _⟩
  | some ad =>
    clear h3
    go_enter Try.func40, Try.ntmps40
    go_wp2_with (at_builtin; refine wpList_append_byt rfl _ _ rfl w.heap.size _ [] rfl (OwnB.empty _ _ _) _ l rfl (h.below ((Below.refl _ _).alloc (Nat.le_refl _) _)) ?c1 ?c2 ?_)
    case c1 => simpa using hl
    case c2 => simp
    intro v' w' hown hg _
    go_wp2
    go_ret
    exact ⟨v', rfl, by simpa using hown, ((Below.refl _ _).alloc (Nat.le_refl _) _).grown hg (by simp) (fun k hk => by simp [ownB] at hk)⟩

/-- b[p:q], of bytes that are within. -/
theorem byt_slice {w : World} {a : Option Addr} {cap : Nat} {l : List UInt8} (h : Byt w (.slice a l.length cap) l) (p q : Int) (h0 : 0 ≤ p) (h1 : p ≤ q) (h2 : q ≤ (l.length : Int)) :
    ∃ v', (∀ W : World, (Instr.sliceAt 22 (.slice a l.length cap) (some (.int .i64 p)) (some (.int .i64 q)) none).run Try.prog W = .ok v' W) ∧ Byt w v' (seg l p (q - p)) := by
  obtain ⟨a', cap', e, hlc, hcm, hc⟩ := h.open
  simp only [Value.slice.injEq] at e
  obtain ⟨rfl, _, rfl⟩ := e
  have hw : withinB l.length p (q - p) = true := (withinB_iff _ _ _).2 ⟨h0, by omega, by omega, by omega⟩
  have hsl := seg_length l p (q - p) hw
  refine ⟨.slice (if cap = p.toNat then a else a.map (·.add (p.toNat * 1))) (q.toNat - p.toNat) (cap - p.toNat), fun W => ?_, ?_⟩
  · obtain ⟨i, hi, hz0, hz1, hz2⟩ := info_parts infoB
    have b1 : 0 ≤ q ∧ q ≤ (cap : Int) := by omega
    have b2 : 0 ≤ p ∧ p ≤ (q.toNat : Int) := by omega
    simp [Instr.sliceAt, Instr.slice, Instr.sliceBounds, Instr.sliceBound, run_underlying Try.underlying22, asIntOf, b1, b2, sizeOf, typeInfo, hi, hz1]
    intro hh
    omega
  · refine Byt.of (by rw [hsl]; omega) (by omega) (by unfold maxLen at hcm ⊢; omega) fun i hi => ?_
    rw [hsl] at hi
    obtain ⟨b, off, e, hcell⟩ := hc (p.toNat + i) (by omega)
    subst e
    refine ⟨b, off + p.toNat, ?_, ?_⟩
    · rw [if_neg (by omega)]
      simp [add0]
    · rw [seg_getD l p (q - p) hw i (by omega), Nat.add_assoc]
      exact hcell
end Go.Proofs.Ytilanncobbdlfaa
