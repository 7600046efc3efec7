/-
  Contracts of the statements' own helpers: CopyBytes, EqBytes, Roomy, Kept. For every slice that can be read; each but Roomy's and CopyBytes's results leaves the world alone.
-/
import Derived.Test.YtbfhgpaobnlodaaDoorProg
import Derived.Test.YtbfhgpaobnlodaaDoorKit
import Derived.WalkSpells
import Derived.WalkLawsBesides
namespace Go.Proofs.YtbfhgpaobnlodaaDoor
open Go Go.RowKit

theorem infoB : (Tryd.prog.info? 5).map (fun i => (i.zero, i.size, i.bytes)) = some (some (.int .u8 0), 1, 1) := by kernel_rfl

section
variable {w : World} {ops : Array Oper} {rest : List Oper} {o : Oper} {a : Act} {Q : Exit → Act → World → Prop}

/-- append(out, bytes...). -/
theorem wpList_append_byt (hgd : o.guard = none) (s x : Operand)
    (ho : o.op = .call { callee := .builtin .append, args := #[s, x], argTypes := #[23, 23] })
    (base : Nat) (v : Value) (l : List UInt8) (hs : a.eval s = v) (hown : OwnB w base v l)
    (y : Value) (m : List UInt8) (hxe : a.eval x = y) (hx : Byt w y m) (hlen : l.length + m.length ≤ 140737488355328) (hbase : base ≤ w.heap.size)
    (h : ∀ v' w', OwnB w' base v' (l ++ m) → w.grownBy w' (ownB v) → (ownB v' = ownB v ∨ ∃ g, ownB v' = some g ∧ w.heap.size ≤ g) → wpList Tryd.prog ops Q rest (a.put o.dst v') w') : wpList Tryd.prog ops Q (o :: rest) a w :=
  wpList_append_rd w hgd s x 23 ho base 5 (.int .u8 0) 1 1 Tryd.underlying23 infoB rfl (by decide) v l.length (l.map b8) hs hown y m.length (m.map b8) hxe hx (b8_oneCell m)
    (by unfold maxLen; omega) (by omega) hbase fun v' w' h1 h2 h3 _ => h v' w' (by simpa [OwnB] using h1) h2 h3
/-- make([]byte, n). -/
theorem wpList_make_byt (hgd : o.guard = none) (l c : Operand) (hop : o.op = Op.makeSlice 23 l c) (base n : Nat) (kl kc : IntKind) (hl : a.eval l = .int kl (n : Int)) (hc : a.eval c = .int kc (n : Int)) (hn : n ≤ 140737488355328) (hbase : base ≤ w.heap.size)
    (h : ∀ w', OwnB w' base (.slice (some ⟨w.heap.size, 0, none⟩) n n) (List.replicate n 0) → w.grownBy w' none → wpList Tryd.prog ops Q rest (a.put o.dst (.slice (some ⟨w.heap.size, 0, none⟩) n n)) w') : wpList Tryd.prog ops Q (o :: rest) a w := by
  obtain ⟨i, hi, hz0, hz1, hz2⟩ := info_parts infoB
  refine wpList_make_full w hgd l c 23 hop base 5 i (.int .u8 0) 1 Tryd.underlying23 hi hz0 hz1 kl kc (n : Int) (n : Int) n hl hc rfl rfl (by rw [hz2]; omega) (by unfold maxLen; omega) hbase fun w' h1 h2 => h w' ?_ h2
  have h3 := Own.of_ownsRow h1
  have e : (madeCells (Value.int .u8 0).cells (n * 1)).toList = (List.replicate n (0 : UInt8)).map b8 := by
    simp only [madeCells, Array.toList_map, Array.toList_range, Nat.mul_one, List.map_replicate]
    apply List.ext_getElem
    · simp
    · intro j h1 h2
      simp [Value.cells, b8, Nat.mod_one]
  rw [e] at h3
  simpa [OwnB] using h3
end

set_option maxHeartbeats 400000 in
theorem eqBytes_calls (v1 v2 : Value) (l1 l2 : List UInt8) (w : World) (h1 : Byt w v1 l1) (h2 : Byt w v2 l2) :
    Calls Tryd.prog 19 #[v1, v2] w fun e w' => e = .returned (.bool (decide (l1 = l2))) ∧ w = w' := by
  have c1 := run_tostring (P := Tryd.prog) h1 23 9 5 Tryd.underlying23 Tryd.underlying5 Tryd.underlying9
  have c2 := run_tostring (P := Tryd.prog) h2 23 9 5 Tryd.underlying23 Tryd.underlying5 Tryd.underlying9
  go_enter Tryd.func19, Tryd.ntmps19
  go_wp2
  go_ret
  exact ⟨by simp [sOf_beq], rfl⟩

set_option maxHeartbeats 400000 in
theorem copyBytes_calls (v : Value) (l : List UInt8) (w : World) (h : Byt w v l) (hl : l.length ≤ 140737488355328) :
    Calls Tryd.prog 17 #[v] w fun e w' => ∃ v', e = .returned v' ∧ OwnB w' w.heap.size v' l ∧ Below w.heap.size w w' := by
  go_enter Tryd.func17, Tryd.ntmps17
  go_wp2_with (at_builtin; refine wpList_append_byt rfl _ _ rfl w.heap.size (.slice none 0 0) [] rfl (OwnB.empty _ _ _) v l rfl h (by simpa using hl) (Nat.le_refl _) ?_; intro v' w' hown hg _)
  go_ret
  exact ⟨v', rfl, by simpa using hown, (Below.refl _ _).grown hg (Nat.le_refl _) (fun k hk => by simp [ownB] at hk)⟩

/-- The seven bytes behind what Roomy hands back. -/
def room : List UInt8 := [201, 202, 203, 204, 205, 206, 207]
theorem room_snoc (k : Nat) (hk : k < 7) : room.take (k + 1) = room.take k ++ [UInt8.ofNat (201 + k)] := by
  have : k = 0 ∨ k = 1 ∨ k = 2 ∨ k = 3 ∨ k = 4 ∨ k = 5 ∨ k = 6 := by omega
  rcases this with rfl | rfl | rfl | rfl | rfl | rfl | rfl <;> rfl
theorem room_get (k : Nat) (hk : k < 7) : (room.getD k 0).toNat = 201 + k := by
  have : k = 0 ∨ k = 1 ∨ k = 2 ∨ k = 3 ∨ k = 4 ∨ k = 5 ∨ k = 6 := by omega
  rcases this with rfl | rfl | rfl | rfl | rfl | rfl | rfl <;> rfl

set_option maxHeartbeats 400000 in
theorem roomy_calls (v : Value) (l : List UInt8) (w : World) (h : Byt w v l) (hl : l.length ≤ 1000000000000) :
    Calls Tryd.prog 10 #[v] w fun e w' => ∃ g cap, e = .returned (.slice (some ⟨g, 0, none⟩) l.length cap) ∧
      OwnB w' w.heap.size (.slice (some ⟨g, 0, none⟩) (l.length + 7) cap) (l ++ room) ∧ Below w.heap.size w w' := by
  obtain ⟨a, cap, rfl, h1, h2, h3⟩ := h.open
  go_enter Tryd.func10, Tryd.ntmps10
  go_wp2_with (go_at_call 17; refine (copyBytes_calls _ l _ h (by omega)).mono ?_; rintro e w1 ⟨v1, rfl, hown1, hb1⟩)
  go_loopw [3, 4] (fun out i wr => ∃ k : Nat, k ≤ 7 ∧ i = .int .i64 k ∧ OwnB wr w.heap.size out (l ++ room.take k) ∧ Below w.heap.size w wr) (fun _ i _ => 7 - (intOf i).toNat)
  case atStart => exact ⟨0, by omega, rfl, by simpa [room] using hown1, hb1⟩
  case round =>
    obtain ⟨k, hk, rfl, hown, hb⟩ := hrel
    by_cases hlt : k < 7
    · obtain ⟨c, hc, hr⟩ : ∃ c : UInt8, Hid ((201 + k : Int) = (c.toNat : Int)) ∧ Hid (room.take (k + 1) = room.take k ++ [c]) := by
        refine ⟨UInt8.ofNat (201 + k), ?_, Lib.hid (room_snoc k hlt)⟩
        unfold Hid
        rw [UInt8.toNat_ofNat']
        omega
      obtain ⟨m, hm, hml⟩ : ∃ m, Hid (m = l ++ room.take k) ∧ m.length ≤ 1000000000007 := ⟨_, Lib.hid rfl, by rw [List.length_append, List.length_take]; omega⟩
      rw [← hm.out] at hown
      go_wp2_with (at_builtin; refine wpList_append_byt rfl _ _ rfl w.heap.size _ m rfl (hown.alloc _) _ [c] rfl (Byt.one _ _ _ _ hc.out) ?c2 ?c3 ?_)
      case c2 => simp; omega
      case c3 => have := hb.size; simp; omega
      intro v' w' hown' hg _
      go_wp2
      go_roundw
      case rel => exact ⟨k + 1, by omega, by go_num, by rw [hr.out, ← List.append_assoc, ← hm.out]; exact hown', (hb.alloc hb.size _).grown hg (by have := hb.size; simp; omega) (fun j hj => (hown.lt j hj).1)⟩
      case measure => simp [intOf]; omega
    · obtain rfl : k = 7 := by omega
      rw [show room.take 7 = room from rfl] at hown
      obtain ⟨g, cap', rfl, hg1, hg2, hg3, hg4, hg5⟩ := hown.head (by simp [room])
      rw [show (l ++ room).length = l.length + 7 by simp [room]] at hown hg4 ⊢
      go_wp2
      go_ret
      exact ⟨g, cap', rfl, hown, hb⟩

/-- Of a slice that reads l ++ r with its room, the cells of r. -/
theorem room_cell {w : World} {base g n cap : Nat} {l : List UInt8} (h : OwnB w base (.slice (some ⟨g, 0, none⟩) n cap) (l ++ room)) (k : Nat) (hk : k < 7) :
    w.cell? ⟨g, l.length + k, none⟩ = some (.int .u8 (201 + (k : Int))) := by
  obtain ⟨a, c, e, _, _, h3⟩ := h.byt.open
  obtain ⟨b, off, e2, hc⟩ := h3 (l.length + k) (by simp [room]; omega)
  simp only [Value.slice.injEq] at e
  obtain ⟨e1, _, _⟩ := e
  rw [← e1] at e2
  cases e2
  rw [Nat.zero_add] at hc
  rw [hc]
  have : (l ++ room).getD (l.length + k) 0 = room.getD k 0 := by simp only [List.getD]; rw [List.getElem?_append_right (by omega), Nat.add_sub_cancel_left]
  rw [this, room_get k hk]
  simp

set_option maxHeartbeats 400000 in
theorem kept_calls (base g n cap : Nat) (v : Value) (l m : List UInt8) (w : World) (hn : n = l.length) (h : OwnB w base (.slice (some ⟨g, 0, none⟩) (n + 7) cap) (l ++ room)) (hv : Byt w v m) :
    Calls Tryd.prog 15 #[.slice (some ⟨g, 0, none⟩) n cap, v] w fun e w' => e = .returned (.bool (decide (l = m))) ∧ w = w' := by
  subst hn
  have hl : Byt w (.slice (some ⟨g, 0, none⟩) l.length cap) l := by
    have := Byt.take h.byt l.length (by simp)
    simpa using this
  have hcell := fun k hk => room_cell h k hk
  obtain ⟨a, cap', e, hle, hmx, _⟩ := h.byt.open
  simp only [Value.slice.injEq, List.length_append, room, List.length_cons, List.length_nil, Nat.zero_add] at e hle
  obtain ⟨e1, e2, rfl⟩ := e
  clear e1 e2
  unfold maxLen at hmx
  by_cases heq : l = m
  · have hd : decide (l = m) = true := by simpa using heq
    clear heq
    have hE := eqBytes_calls _ v l m w hl hv
    rw [hd] at hE ⊢
    have HE := Lib.hid hE
    clear hE hd
    go_enter Tryd.func15, Tryd.ntmps15
    go_wp2_with (go_at_call 19; refine HE.out.mono ?_; rintro e w1 ⟨rfl, rfl⟩)
    go_loop [6] (fun i => ∃ k : Nat, k ≤ 7 ∧ i = .int .i64 k) (fun i => 7 - (intOf i).toNat)
    case atStart => exact ⟨0, by omega, rfl⟩
    case round =>
      obtain ⟨k, hk, rfl⟩ := hrel
      by_cases hlt : k < 7
      · have hc := hcell k hlt
        clear hcell
        go_wp2
        go_round
        case rel => exact ⟨k + 1, by omega, by go_num⟩
        case measure => simp [intOf]; omega
      · go_wp2
        go_ret
        exact ⟨rfl, rfl⟩
  · have hd : decide (l = m) = false := by simpa using heq
    clear heq
    have hE := eqBytes_calls _ v l m w hl hv
    rw [hd] at hE ⊢
    have HE := Lib.hid hE
    clear hE hd
    go_enter Tryd.func15, Tryd.ntmps15
    go_wp2_with (go_at_call 19; refine HE.out.mono ?_; rintro e w1 ⟨rfl, rfl⟩)
    go_ret
    exact ⟨rfl, rfl⟩
end Go.Proofs.YtbfhgpaobnlodaaDoor
