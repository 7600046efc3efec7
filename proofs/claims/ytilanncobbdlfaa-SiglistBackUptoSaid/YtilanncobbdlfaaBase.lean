/-
  Contracts of the statements' own helpers: CopyBytes, EqBytes, Roomy, Kept. For every slice that can be read; each but Roomy's and CopyBytes's results leaves the world alone.
-/
import Derived.Test.YtilanncobbdlfaaProg
import Derived.Test.YtilanncobbdlfaaKit
import Derived.WalkSpells
import Derived.WalkLawsBesides
namespace Go.Proofs.Ytilanncobbdlfaa
open Go Go.RowKit

theorem infoB : (Try.prog.info? 5).map (fun i => (i.zero, i.size, i.bytes)) = some (some (.int .u8 0), 1, 1) := by kernel_rfl

section
variable {w : World} {ops : Array Oper} {rest : List Oper} {o : Oper} {a : Act} {Q : Exit → Act → World → Prop}

/-- append(out, bytes...). -/
theorem wpList_append_byt (hgd : o.guard = none) (s x : Operand)
    (ho : o.op = .call { callee := .builtin .append, args := #[s, x], argTypes := #[22, 22] })
    (base : Nat) (v : Value) (l : List UInt8) (hs : a.eval s = v) (hown : OwnB w base v l)
    (y : Value) (m : List UInt8) (hxe : a.eval x = y) (hx : Byt w y m) (hlen : l.length + m.length ≤ 140737488355328) (hbase : base ≤ w.heap.size)
    (h : ∀ v' w', OwnB w' base v' (l ++ m) → w.grownBy w' (ownB v) → (ownB v' = ownB v ∨ ∃ g, ownB v' = some g ∧ w.heap.size ≤ g) → wpList Try.prog ops Q rest (a.put o.dst v') w') : wpList Try.prog ops Q (o :: rest) a w :=
  wpList_append_rd w hgd s x 22 ho base 5 (.int .u8 0) 1 1 Try.underlying22 infoB rfl (by decide) v l.length (l.map b8) hs hown y m.length (m.map b8) hxe hx (b8_oneCell m)
    (by unfold maxLen; omega) (by omega) hbase fun v' w' h1 h2 h3 _ => h v' w' (by simpa [OwnB] using h1) h2 h3
/-- append(out, make([]byte, n)...): n zeros behind what is owned. -/
theorem append_zeros (w : World) (base : Nat) (ty : TypeId) (v : Value) (l : List UInt8) (n : Nat) (hown : OwnB w base v l) (hlen : l.length + n ≤ 140737488355328) (hbase : base ≤ w.heap.size) :
    ∃ v' w', (Builtin.append_ #[22, 3] ty #[v, .int .i64 (n : Int)]).run Try.prog w = .ok v' w' ∧ OwnB w' base v' (l ++ List.replicate n 0) ∧ w.grownBy w' (ownB v) := by
  obtain ⟨i, hi, hz, hz1, hz2⟩ := info_parts infoB
  have ht := Try.underlying22
  have hu := Try.underlying3
  have hw : IntKind.i64.wrap (n : Int) = (n : Int) := IntWalk.i64_in _ (by omega)
  have hzc : ∀ m, (Builtin.zeroCells #[Value.int .u8 0] m).toList = (List.replicate m (0 : UInt8)).map b8 := by
    intro m
    simp only [Builtin.zeroCells, Array.toList_map, Array.toList_range, List.map_replicate]
    apply List.ext_getElem
    · simp
    · intro j h1 h2
      simp [b8, Nat.mod_one]
  have hcells : (Value.int .u8 0).cells = #[Value.int .u8 0] := rfl
  have hw0 : IntKind.i64.wrap 0 = 0 := by decide
  by_cases hn : n = 0
  · subst hn
    obtain ⟨a, cap, rfl, hnc, hcm⟩ := Own.shape hown
    refine ⟨.slice a l.length cap, w, ?_, by simpa using hown, World.grownBy.refl _ _⟩
    cases a <;> simp [Builtin.append_, run_underlying ht, run_underlying hu, sizeOf, typeInfo, hi, hz2, hnc, storeCells, asInt, asIntOf, hw0]
  · have h63 : ¬ ((n : Int) < 0) := by omega
    have h48 : ¬ (281474976710656 < (n : Int)) := by omega
    have grown : ∀ old, old < l.length + n → OwnB (w.drew.alloc (.cells ((l.map b8).toArray ++ Builtin.zeroCells #[Value.int .u8 0] n ++ Builtin.zeroCells #[Value.int .u8 0] (grownCap w (l.length + n) old 5 - (l.length + n))) 5)) base
        (.slice (some ⟨w.heap.size, 0, none⟩) (l.length + n) (grownCap w (l.length + n) old 5)) (l ++ List.replicate n 0) := by
      intro old ho
      have hge := grownCap_ge w (l.length + n) old 5
      have hcm : grownCap w (l.length + n) old 5 ≤ maxLen := grownCap_le_maxLen w (l.length + n) old 5 (by unfold maxLen; omega)
      unfold OwnB
      have hll : (l ++ List.replicate n (0 : UInt8)).length = l.length + n := by simp
      rw [hll]
      refine ⟨by simp, .inr ⟨w.heap.size, _, _, rfl, hbase, heap_alloc_new w.drew _, hge, by omega, hcm, ?_, ?_⟩⟩
      · simp [size_zeroCells]; omega
      · simp only [Array.toList_append, hzc, Nat.mul_one]
        rw [List.take_append_of_le_length (by simp), List.take_of_length_le (by simp), List.map_append]
    have hgb : ∀ row o, w.grownBy (w.drew.alloc o) row := fun row o => ⟨rfl, rfl, rfl, by simp, fun k hk _ => Below.heap_alloc w.drew _ k hk⟩
    rcases hown.2 with ⟨a, rfl, h0⟩ | ⟨g, cap, cur, rfl, hbg, hg, hnc, h0, hcm, hcs, htake⟩
    · have hl0 : l = [] := List.eq_nil_of_length_eq_zero h0
      subst hl0
      have hgr := grown 0 (by simp; omega)
      refine ⟨_, _, ?_, hgr, hgb _ _⟩
      have h64 : ¬ (9223372036854775807 < (n : Int)) := by omega
      have h49 : ¬ (281474976710656 < Builtin.nextslicecap n 0) := by rw [nextslicecap_zero (by omega)]; omega
      have hmin : ∀ m : Nat, (m : Int).toNat = m := fun m => Int.toNat_natCast m
      cases a <;> simp [Builtin.append_, run_underlying ht, run_underlying hu, sizeOf, typeInfo, zeroValue, hi, hz, hz1, hz2, hw, h63, h48, h64, h49, hn, asInt, asIntOf, Question.forced, Builtin.firstCells, loadCells, loadCellsFrom, newRow, grownCap, hcells]
    · by_cases hroom : l.length + n ≤ cap
      · have hc0 : cap ≠ 0 := by omega
        have hz8 : ∀ u ∈ (Builtin.zeroCells #[Value.int .u8 0] n).toList, u.oneCell' = true := by rw [hzc]; exact b8_oneCell _
        have hst := run_storeCells_at Try.prog g l.length 5 (Builtin.zeroCells #[Value.int .u8 0] n).toList 0 cur w hg (by rw [hzc]; simp; omega) hz8
        simp only [Nat.add_zero] at hst
        refine ⟨.slice (some ⟨g, 0, none⟩) (l.length + n) cap, w.setRow g (cur.toList.take l.length ++ (Builtin.zeroCells #[Value.int .u8 0] n).toList ++ cur.toList.drop (l.length + (Builtin.zeroCells #[Value.int .u8 0] n).toList.length)).toArray, ?_, ?_, ?_⟩
        · simp [Builtin.append_, run_underlying ht, run_underlying hu, sizeOf, typeInfo, zeroValue, hi, hz, hz1, hz2, hw, h63, h48, hn, asInt, asIntOf, hroom, hcells, Addr.add_lit, hst]
        · unfold OwnB
          have hll : (l ++ List.replicate n (0 : UInt8)).length = l.length + n := by simp
          rw [hll]
          refine ⟨by simp, .inr ⟨g, cap, _, rfl, hbg, setRow_heap w g cur _ _ _ hg, hroom, h0, hcm, ?_, ?_⟩⟩
          · rw [hzc]; simp; omega
          · rw [hzc]
            rw [Nat.mul_one] at htake
            simp only [Nat.mul_one]
            rw [htake, List.map_append, List.append_assoc, ← List.append_assoc]
            exact List.take_left' (by simp)
        · exact ⟨rfl, rfl, rfl, by simp, fun k _ hk => setRow_other w g k _ (fun e => hk (by simp [ownB, e, hc0]))⟩
      · have holds : ∀ j u, (l.map b8)[j]? = some u → w.cell? ((⟨g, 0, none⟩ : Addr).add j) = some u := by
          intro j u hj
          obtain ⟨a', cap', e1, _, _, _, h5⟩ := Own.rd hown
          obtain ⟨b, off, e2, hc⟩ := h5 j u hj
          cases e1
          cases e2
          rw [add0]
          exact hc
        have hgr := grown cap (by omega)
        refine ⟨_, _, ?_, hgr, hgb _ _⟩
        have hfo := run_firstCells_some (P := Try.prog) w.drew 1 l.length ⟨g, 0, none⟩ l.length cap (l.map b8) (by simp) (by simpa using holds)
        have h64 : ¬ (9223372036854775807 < ((l.length : Int) + (n : Int))) := by omega
        have h49 : ¬ (281474976710656 < Builtin.nextslicecap (l.length + n) cap) := by
          have := growslice_fits (need := l.length + n) (old := cap) (bytes := 1) (by omega) (by omega)
          omega
        simp [Builtin.append_, run_underlying ht, run_underlying hu, sizeOf, typeInfo, zeroValue, hi, hz, hz1, hz2, hw, h63, h48, h64, h49, hn, asInt, asIntOf, hroom, Question.forced, hfo, newRow, grownCap, hcells]

/-- The walk's law on it. -/
theorem wpList_append_zeros (hgd : o.guard = none) (s x : Operand)
    (ho : o.op = .call { callee := .builtin .append, args := #[s, x], argTypes := #[22, 3] })
    (base : Nat) (v : Value) (l : List UInt8) (hs : a.eval s = v) (hown : OwnB w base v l) (n : Nat) (hx : a.eval x = .int .i64 (n : Int)) (hlen : l.length + n ≤ 140737488355328) (hbase : base ≤ w.heap.size)
    (h : ∀ v' w', OwnB w' base v' (l ++ List.replicate n 0) → w.grownBy w' (ownB v) → wpList Try.prog ops Q rest (a.put o.dst v') w') : wpList Try.prog ops Q (o :: rest) a w := by
  refine wpList_plain hgd fun K hK => ?_
  obtain ⟨v', w', hr, h2, h3⟩ := append_zeros w base o.type v l n hown hlen hbase
  unfold Oper.wp execOp
  simp only [ho, resolve, invoke, builtin, Sem.run_bind, Sem.run_pure, Result.andThen_ok, List.map_toArray, List.map_cons, List.map_nil, hs, hx, hr]
  exact hK _ _ (h v' w' h2 h3)

/-- make([]byte, n). -/
theorem wpList_make_byt (hgd : o.guard = none) (l c : Operand) (hop : o.op = Op.makeSlice 22 l c) (base n : Nat) (kl kc : IntKind) (hl : a.eval l = .int kl (n : Int)) (hc : a.eval c = .int kc (n : Int)) (hn : n ≤ 140737488355328) (hbase : base ≤ w.heap.size)
    (h : ∀ w', OwnB w' base (.slice (some ⟨w.heap.size, 0, none⟩) n n) (List.replicate n 0) → w.grownBy w' none → wpList Try.prog ops Q rest (a.put o.dst (.slice (some ⟨w.heap.size, 0, none⟩) n n)) w') : wpList Try.prog ops Q (o :: rest) a w := by
  obtain ⟨i, hi, hz0, hz1, hz2⟩ := info_parts infoB
  refine wpList_make_full w hgd l c 22 hop base 5 i (.int .u8 0) 1 Try.underlying22 hi hz0 hz1 kl kc (n : Int) (n : Int) n hl hc rfl rfl (by rw [hz2]; omega) (by unfold maxLen; omega) hbase fun w' h1 h2 => h w' ?_ h2
  have h3 := Own.of_ownsRow h1
  have e : (madeCells (Value.int .u8 0).cells (n * 1)).toList = (List.replicate n (0 : UInt8)).map b8 := by
    simp only [madeCells, Array.toList_map, Array.toList_range, Nat.mul_one, List.map_replicate]
    apply List.ext_getElem
    · simp
    · intro j h1 h2
      simp [Value.cells, b8, Nat.mod_one]
  rw [e] at h3
  simpa [OwnB] using h3
end

set_option maxHeartbeats 400000 in
theorem copyBytes_calls (v : Value) (l : List UInt8) (w : World) (h : Byt w v l) (hl : l.length ≤ 140737488355328) :
    Calls Try.prog 53 #[v] w fun e w' => ∃ v', e = .returned v' ∧ OwnB w' w.heap.size v' l ∧ Below w.heap.size w w' := by
  go_enter Try.func53, Try.ntmps53
  go_wp2_with (at_builtin; refine wpList_append_byt rfl _ _ rfl w.heap.size (.slice none 0 0) [] rfl (OwnB.empty _ _ _) v l rfl h (by simpa using hl) (Nat.le_refl _) ?_; intro v' w' hown hg _)
  go_ret
  exact ⟨v', rfl, by simpa using hown, (Below.refl _ _).grown hg (Nat.le_refl _) (fun k hk => by simp [ownB] at hk)⟩

/-- The seven bytes behind what Roomy hands back. -/
def room : List UInt8 := [201, 202, 203, 204, 205, 206, 207]
theorem room_snoc (k : Nat) (hk : k < 7) : room.take (k + 1) = room.take k ++ [UInt8.ofNat (201 + k)] := by
  have : k = 0 ∨ k = 1 ∨ k = 2 ∨ k = 3 ∨ k = 4 ∨ k = 5 ∨ k = 6 := by omega
  rcases this with rfl | rfl | rfl | rfl | rfl | rfl | rfl <;> rfl
theorem room_get (k : Nat) (hk : k < 7) : (room.getD k 0).toNat = 201 + k := by
  have : k = 0 ∨ k = 1 ∨ k = 2 ∨ k = 3 ∨ k = 4 ∨ k = 5 ∨ k = 6 := by omega
  rcases this with rfl | rfl | rfl | rfl | rfl | rfl | rfl <;> rfl

/-- Of a slice that reads l ++ r with its room, the cells of r. -/
theorem room_cell {w : World} {base g n cap : Nat} {l : List UInt8} (h : OwnB w base (.slice (some ⟨g, 0, none⟩) n cap) (l ++ room)) (k : Nat) (hk : k < 7) :
    w.cell? ⟨g, l.length + k, none⟩ = some (.int .u8 (201 + (k : Int))) := by
  obtain ⟨a, c, e, _, _, h3⟩ := h.byt.open
  obtain ⟨b, off, e2, hc⟩ := h3 (l.length + k) (by simp [room]; omega)
  simp only [Value.slice.injEq] at e
  obtain ⟨e1, _, _⟩ := e
  rw [← e1] at e2
  cases e2
  rw [Nat.zero_add] at hc
  rw [hc]
  have : (l ++ room).getD (l.length + k) 0 = room.getD k 0 := by simp only [List.getD]; rw [List.getElem?_append_right (by omega), Nat.add_sub_cancel_left]
  rw [this, room_get k hk]
  simp

end Go.Proofs.Ytilanncobbdlfaa
