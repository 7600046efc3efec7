/-
  The contracts of slices.Chunk and of its closure, at chunks of two bytes; letter.
-/
import Derived.Test.YtbcocblamocobaaOct7
import Derived.RangeFuncNested
import Derived.RangeFuncBound
import Derived.RangeFuncCalls
import Derived.RangeFuncLeaves
import Derived.RangeFuncBox
import Derived.RangeFuncFrom
import Derived.Shelf.Abstract
import Derived.OwnWalkIn
import Derived.TacticsInMore
import Derived.LoopNIn
import Derived.LoopIn
import Derived.Maps.AppendAt
namespace Go.Proofs.Ytbcocblamocobaa
open Go Go.RowKit Go.Shelf

attribute [local go_sem] Oper.semAt_some

theorem slice_from (b off L cap p : Nat) (h1 : p < L) (h2 : L ≤ cap) (_h3 : cap ≤ maxLen) (W : World) :
    (Instr.sliceAt 23 (.slice (some ⟨b, off, none⟩) L cap) (some (.int .i64 p)) none none).run Try.prog W = .ok (.slice (some ⟨b, off + p, none⟩) (L - p) (cap - p)) W := by
  obtain ⟨i, hi, hz0, hz1, hz2⟩ := info_parts infoB
  have b2 : (0 : Int) ≤ (p : Int) ∧ (p : Int) ≤ (L : Int) := by omega
  have b3 : ¬ cap = p := by omega
  simp [Instr.sliceAt, Instr.slice, Instr.sliceBounds, Instr.sliceBound, run_underlying Try.underlying23, asIntOf, b2, b3, sizeOf, typeInfo, hi, hz1, add0]
  try omega

theorem slice_three (b off L cap p q : Nat) (h0 : p < q) (h1 : q ≤ L) (h2 : L ≤ cap) (_h3 : cap ≤ maxLen) (W : World) :
    (Instr.sliceAt 23 (.slice (some ⟨b, off, none⟩) L cap) (some (.int .i64 p)) (some (.int .i64 q)) (some (.int .i64 q))).run Try.prog W = .ok (.slice (some ⟨b, off + p, none⟩) (q - p) (q - p)) W := by
  obtain ⟨i, hi, hz0, hz1, hz2⟩ := info_parts infoB
  have b1 : (0 : Int) ≤ (q : Int) ∧ (q : Int) ≤ (cap : Int) := by omega
  have b2 : (0 : Int) ≤ (p : Int) ∧ (p : Int) ≤ (q : Int) := by omega
  have b3 : ¬ q = p := by omega
  simp [Instr.sliceAt, Instr.slice, Instr.sliceBounds, Instr.sliceBound, run_underlying Try.underlying23, asIntOf, b1, b2, b3, sizeOf, typeInfo, hi, hz1, add0]
  rw [if_pos (by omega), if_pos (by omega)]

set_option maxHeartbeats 400000 in
theorem letter_calls (c : UInt8) (w : World) : Calls Try.prog 44 #[.int .u8 c.toNat] w fun e w' => e = .returned (.bool (letB c)) ∧ w = w' := by
  have hc := c.toNat_lt
  by_cases h : 1 ≤ c.toNat ∧ c.toNat ≤ 127
  · have e : Hid (letB c = true) := Lib.hid ((letB_iff c).2 h)
    go_enter Try.func44, Try.ntmps44
    go_wp2
    go_ret
    exact ⟨by rw [e.out]; simp; omega, rfl⟩
  · have e : Hid (letB c = false) := Lib.hid (letB_not c h)
    by_cases h0 : c.toNat = 0
    · go_enter Try.func44, Try.ntmps44
      go_wp2
      go_ret
      exact ⟨by rw [e.out]; simp; try omega, rfl⟩
    · have h1 : 128 ≤ c.toNat := by omega
      clear h
      go_enter Try.func44, Try.ntmps44
      go_wp2
      go_ret
      exact ⟨by rw [e.out]; simp; try omega, rfl⟩

set_option maxHeartbeats 400000 in
theorem chunk_calls (a : Option Addr) (L cap : Nat) (w : World) :
    Calls Try.prog 43 #[.slice a L cap, .int .i64 2] w fun e w' => e = .returned (.func (.func 49) #[] #[.pointer (some ⟨w.heap.size, 0, none⟩), .pointer (some ⟨w.heap.size + 1, 0, none⟩)]) ∧
      w' = (w.alloc (.cells #[.slice a L cap] 23)).alloc (.cells #[.int .i64 2] 3) := by
  go_enter Try.func43, Try.ntmps43
  go_wp2
  go_ret
  exact ⟨rfl, rfl⟩

/-- The chunks' places of L bytes. -/
abbrev Pl (L : Nat) := { x : Nat // 2 * x < L }
/-- What has come when k rounds are over. -/
def cho (L k : Nat) : List (Pl L) := (List.range k).filterMap fun x => if h : 2 * x < L then some ⟨x, h⟩ else none
theorem cho_succ (L k : Nat) (h : 2 * k < L) : cho L (k + 1) = cho L k ++ [⟨k, h⟩] := by
  simp [cho, List.range_succ, h]
def chV (b off L : Nat) (x : Pl L) : Value := .slice (some ⟨b, off + 2 * x.1, none⟩) (min 2 (L - 2 * x.1)) (min 2 (L - 2 * x.1))
theorem cho_length (L k : Nat) (h : 2 * k < L + 2) : (cho L k).length = k := by
  induction k with
  | zero => rfl
  | succ k ih => rw [cho_succ L k (by omega), List.length_append, ih (by omega)]; rfl

/-- The two boxes of the closure are as they were. -/
structure Keep2 (B : Nat) (W W' : World) : Prop where
  a : W'.heap[B]? = W.heap[B]?
  b : W'.heap[B + 1]? = W.heap[B + 1]?
theorem Keep2.refl (B : Nat) (W : World) : Keep2 B W W := ⟨rfl, rfl⟩
theorem Keep2.trans {B : Nat} {W W' W'' : World} (h : Keep2 B W W') (k : Keep2 B W' W'') : Keep2 B W W'' := ⟨k.a.trans h.a, k.b.trans h.b⟩
theorem Keep2.drew {B : Nat} {W W' : World} (h : Keep2 B W W') : Keep2 B W W'.drew := ⟨h.a, h.b⟩
theorem Keep2.cella {B : Nat} {W W' : World} (h : Keep2 B W W') : W'.cell? ⟨B, 0, none⟩ = W.cell? ⟨B, 0, none⟩ := World.cell?_of_block h.a
theorem Keep2.cellb {B : Nat} {W W' : World} (h : Keep2 B W W') : W'.cell? ⟨B + 1, 0, none⟩ = W.cell? ⟨B + 1, 0, none⟩ := World.cell?_of_block h.b

set_option maxRecDepth 100000 in
set_option maxHeartbeats 2000000 in
theorem chunk1_in (n : Nat) (hn : 1 ≤ n) (l Bs b off L cap : Nat) (a : Option Addr) (ha : 0 < L → a = some ⟨b, off, none⟩) (hLc : L ≤ cap) (hcm : cap ≤ maxLen) (J Jx : List (Pl L) → World → Prop) (B₀ : Nat) (hJa : AbidesFrom B₀ J)
    (hY : ∀ pre x W, J pre W → pre.length < (L + 1) / 2 → YieldAt Fence.wide (n - 1) Try.prog l #[chV b off L x] W fun e W' =>
      (e = .returned (.bool true) ∧ J (pre ++ [x]) W' ∧ Keep2 Bs W W') ∨ (e = .returned (.bool false) ∧ Jx (pre ++ [x]) W'))
    (W : World) (hc1 : W.cell? ⟨Bs, 0, none⟩ = some (.slice a L cap)) (hc2 : W.cell? ⟨Bs + 1, 0, none⟩ = some (.int .i64 2)) (h0 : J [] W) (hlL : L ≤ 1000000000000) :
    CallsIn Fence.wide n Try.prog 49 #[.func (.yield l) #[] #[], .pointer (some ⟨Bs, 0, none⟩), .pointer (some ⟨Bs + 1, 0, none⟩)] W fun e W' => (∃ v, e = .returned v) ∧
      ((∃ ys, ys = cho L ((L + 1) / 2) ∧ J ys W') ∨ (∃ pre, (∃ k, 2 * k < L + 2 ∧ pre = cho L k) ∧ Jx pre W')) := by
  refine callsIn_of_wp Try.func49 rfl trivial ?_ rfl
  simp only [Try.ntmps49, List.size_toArray, List.length_cons, List.length_nil, Nat.reduceAdd, Nat.reduceSub, Array.replicate_succ, Array.replicate_zero, List.push_toArray, List.append_toArray, List.nil_append, List.cons_append]
  gi_wp2
  gi_loopw [4] (fun i wr => ∃ k : Nat, 2 * k < L + 2 ∧ i = .int .i64 (2 * k : Nat) ∧ J (cho L k) wr ∧ Keep2 Bs W wr)
    (fun i _ => L + 2 - (intOf i).toNat)
  case atStart => exact ⟨0, by omega, rfl, h0, Keep2.refl _ _⟩
  case round =>
    obtain ⟨k, hk, rfl, hJs, hnx⟩ := hrel
    have hd1 := hnx.cella.trans hc1
    have hd2 := hnx.cellb.trans hc2
    by_cases hlt : 2 * k < L
    · obtain rfl := ha (by omega)
      obtain ⟨fn, tmps, assign, body, hy, hR⟩ := hY _ ⟨k, hlt⟩ wr.drew (hJa _ _ _ none hJs ⟨rfl, rfl, rfl, Nat.le_refl _, fun _ _ _ => rfl⟩ (fun r e => by cases e)) (by rw [cho_length L k hk]; omega)
      obtain ⟨p, hp⟩ : ∃ p, Hid (p = 2 * k) := ⟨_, Lib.hid rfl⟩
      unfold chV at hy
      dsimp only at hy
      rw [← hp.out] at hy hlt ⊢
      obtain ⟨m, hm⟩ : ∃ m, m = min 2 (L - p) := ⟨_, rfl⟩
      rw [← hm] at hy
      have hm0 : 1 ≤ m ∧ m ≤ 2 ∧ p + m ≤ L := by omega
      have s1 := slice_from b off L cap p hlt hLc hcm
      have s2 := slice_three b off L cap p (p + m) (by omega) (by omega) hLc hcm
      rw [Nat.add_sub_cancel_left] at s2
      have hmin : ∀ W : World, (Builtin.min_ #[3, 3] 3 #[.int .i64 (2 : Int), .int .i64 ((L - p : Nat) : Int)]).run Try.prog W = .ok (.int .i64 (m : Int)) W := fun W => by
        simp only [Builtin.min_, Builtin.min2, List.foldlM_cons, List.foldlM_nil, Sem.run_bind, Sem.run_pure, Result.andThen_ok]
        congr 2
        split <;> omega
      obtain ⟨q, hq⟩ : ∃ q, Hid (q = p + m) := ⟨_, Lib.hid rfl⟩
      rw [← hq.out] at s2
      have ha : IntKind.i64.wrap ((p : Int) + (m : Int)) = (q : Int) := by
        rw [hq.out]
        rw [IntWalk.i64_in _ (by omega)]
        simp
      obtain ⟨d, hdd⟩ : ∃ d, Hid (d = L - p) := ⟨_, Lib.hid rfl⟩
      rw [← hdd.out] at s1 hmin
      clear hm
      gi_wp2
      gi_region
      all_goals gi_wp2
      refine hR.mono ?_
      rintro e W3 (⟨rfl, hJ3, hk3⟩ | ⟨rfl, hJx3⟩)
      · have hnx3 : Keep2 Bs W W3 := hnx.drew.trans hk3
        have hd3 := hnx3.cellb.trans hc2
        gi_wp2
        go_roundw
        case rel =>
          have := hp.out
          exact ⟨k + 1, by omega, by go_num, by rw [cho_succ L k (by omega)]; exact hJ3, hnx3⟩
        case measure => have := hp.out; simp [intOf]; omega
      · gi_wp2
        refine bodyPost_ret (results_none rfl _ _ _) rfl ?_
        have := hp.out
        exact ⟨⟨_, rfl⟩, .inr ⟨_, ⟨k + 1, by omega, (cho_succ L k (by omega)).symm⟩, hJx3⟩⟩
    · have hke : k = (L + 1) / 2 := by omega
      gi_wp2
      go_end0
      exact ⟨⟨_, rfl⟩, .inl ⟨_, by rw [hke], hJs⟩⟩

theorem chunk_stops (n : Nat) (hn : 1 ≤ n) (Bs b off L cap : Nat) (a : Option Addr) (ha : 0 < L → a = some ⟨b, off, none⟩) (hLc : L ≤ cap) (hcm : cap ≤ maxLen) (hlL : L ≤ 1000000000000) (w : World)
    (hB : Bs + 1 < w.heap.size) (hc1 : w.cell? ⟨Bs, 0, none⟩ = some (.slice a L cap)) (hc2 : w.cell? ⟨Bs + 1, 0, none⟩ = some (.int .i64 2)) :
    SeqStopsK Fence.wide n Try.prog 49 #[.pointer (some ⟨Bs, 0, none⟩), .pointer (some ⟨Bs + 1, 0, none⟩)] (fun x : Pl L => #[chV b off L x]) (Keep2 Bs)
      (fun ys => ys = cho L ((L + 1) / 2)) (fun pre => ∃ k, 2 * k < L + 2 ∧ pre = cho L k) ((L + 1) / 2) w := fun l J Jx W hW hJ _ hY h0 =>
  chunk1_in n hn l Bs b off L cap a ha hLc hcm J Jx _ hJ hY W ((hW.cell (p := ⟨Bs, 0, none⟩) (by simp; omega)).trans hc1) ((hW.cell (p := ⟨Bs + 1, 0, none⟩) hB).trans hc2) h0 hlL
end Go.Proofs.Ytbcocblamocobaa
