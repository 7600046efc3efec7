/-
  Contracts of octet.Wide and of the document's own Wide.
-/
import Derived.Test.YtemojckmnlgkdaaOct6
import Derived.Laws.RangeAny
namespace Go.Proofs.Ytemojckmnlgkdaa
open Go Go.RowKit

def letB (c : UInt8) : Bool := decide (1 ≤ c.toNat ∧ c.toNat ≤ 127)
theorem letB_iff (c : UInt8) : letB c = true ↔ 1 ≤ c.toNat ∧ c.toNat ≤ 127 := by unfold letB; exact decide_eq_true_iff
theorem letB_not (c : UInt8) (h : ¬ (1 ≤ c.toNat ∧ c.toNat ≤ 127)) : letB c = false := by unfold letB; exact decide_eq_false h
def dbl (l : List UInt8) : List UInt8 := l.flatMap fun c => [c, 0]
def wideL (l : List UInt8) : List UInt8 := if l.all letB then dbl l else []
theorem dbl_snoc (l : List UInt8) (c : UInt8) : dbl (l ++ [c]) = dbl l ++ [c, 0] := by simp [dbl, List.flatMap_append]
theorem dbl_length (l : List UInt8) : (dbl l).length = 2 * l.length := by
  induction l with
  | nil => rfl
  | cons c l ih => simp only [dbl, List.flatMap_cons] at *; simp [ih]; omega
theorem wideL_bad (l : List UInt8) (k : Nat) (hk : k < l.length) (h : ¬ (1 ≤ (l.getD k 0).toNat ∧ (l.getD k 0).toNat ≤ 127)) : wideL l = [] := by
  unfold wideL
  rw [if_neg]
  intro ha
  rw [List.all_eq_true] at ha
  have := ha (l.getD k 0) (by simp [List.getD, hk])
  rw [letB_iff] at this
  exact h this
theorem wideL_good (l : List UInt8) (h : ∀ k, k < l.length → 1 ≤ (l.getD k 0).toNat ∧ (l.getD k 0).toNat ≤ 127) : wideL l = dbl l := by
  unfold wideL
  rw [if_pos]
  rw [List.all_eq_true]
  intro c hc
  obtain ⟨k, hk, rfl⟩ := List.getElem_of_mem hc
  rw [letB_iff]
  have := h k hk
  simpa [List.getD, hk] using this
theorem wideL_length_le (l : List UInt8) : (wideL l).length ≤ 2 * l.length := by
  unfold wideL
  split
  · rw [dbl_length]; exact Nat.le_refl _
  · simp

/-- The iterator of a string set to a place. -/
def reIter (w : World) (B : Nat) (s : ByteArray) (p : Nat) : World := { w with heap := w.heap.setIfInBounds B (.stringIter s p) }
theorem reIter_size (w : World) (B : Nat) (s : ByteArray) (p : Nat) : (reIter w B s p).heap.size = w.heap.size := by simp [reIter]
theorem reIter_at (w : World) (B : Nat) (s : ByteArray) (p : Nat) (h : B < w.heap.size) : (reIter w B s p).heap[B]? = some (.stringIter s p) := by simp [reIter, h]
theorem reIter_ne (w : World) (B : Nat) (s : ByteArray) (p k : Nat) (h : k ≠ B) : (reIter w B s p).heap[k]? = w.heap[k]? := by
  simp only [reIter]
  rw [Array.getElem?_setIfInBounds_ne (fun e => h e.symm)]
theorem reIter_below {base : Nat} {w w' : World} (h : Below base w w') (B : Nat) (s : ByteArray) (p : Nat) (hB : base ≤ B) : Below base w (reIter w' B s p) :=
  ⟨h.os, h.tape, h.output, by rw [reIter_size]; exact h.size, fun k hk => by rw [reIter_ne _ _ _ _ _ (by omega)]; exact h.block k hk⟩
theorem reIter_own {w : World} {B : Nat} {v : Value} {l : List UInt8} (s : ByteArray) (p : Nat) (h : OwnB w (B + 1) v l) : OwnB (reIter w B s p) (B + 1) v l := by
  refine Own.kept (row := some B) h ⟨rfl, rfl, rfl, by rw [reIter_size]; exact Nat.le_refl _, fun k hk hne => reIter_ne _ _ _ _ _ (fun e => hne (by rw [e]))⟩ (fun k hk e => ?_)
  have := (Own.lt h k hk).1
  cases e
  omega

theorem run_next_at {P : Program} (w : World) (B : Nat) (s : ByteArray) (pos c n : Nat) (hB : w.heap[B]? = some (.stringIter s pos)) (h : pos < s.size) (hd : Utf8.decode s pos = (c, n)) (ty : TypeId) :
    (Instr.next (.pointer (some ⟨B, 0, none⟩)) true ty).run P w = .ok (.tuple #[.bool true, .int .i64 pos, .int .i32 c]) (reIter w B s (pos + n)) := by
  simp only [Instr.next, getObj, setObj, Sem.run_bind, Sem.run, hB, Result.andThen, h, if_true, hd]
  simp [goInt, reIter]
theorem run_next_done {P : Program} (w : World) (B : Nat) (s : ByteArray) (pos : Nat) (hB : w.heap[B]? = some (.stringIter s pos)) (h : ¬ pos < s.size) (ty : TypeId) :
    (Instr.next (.pointer (some ⟨B, 0, none⟩)) true ty).run P w = .ok (.tuple #[.bool false]) w := by
  simp [Instr.next, getObj, Sem.run, hB, h]

theorem sOf_size (l : List UInt8) : (sOf l).size = l.length := by simp [sOf, ByteArray.size]
theorem sOf_get (l : List UInt8) (k : Nat) (h : k < (sOf l).size) : (sOf l)[k]'h = l.getD k 0 := by
  have h' : k < l.length := by rw [sOf_size] at h; exact h
  simp only [List.getD, List.getElem?_eq_getElem h', Option.getD_some]
  rfl

set_option maxHeartbeats 1600000 in
theorem wide_calls (l : List UInt8) (w : World) (hl : l.length ≤ 1000000000000) :
    Calls Try.prog 32 #[.string (sOf l)] w fun e w' => ∃ v', e = .returned v' ∧ OwnB w' w.heap.size v' (wideL l) ∧ Below w.heap.size w w' := by
  obtain ⟨s, hs⟩ : ∃ s, Hid (s = sOf l) := ⟨_, Lib.hid rfl⟩
  have hsz : Hid (s.size = l.length) := Lib.hid (by rw [hs.out, sOf_size])
  rw [← hs.out]
  obtain ⟨W, hW⟩ : ∃ W, Hid (W = wideL l) := ⟨_, Lib.hid rfl⟩
  rw [← hW.out]
  go_enter Try.func32, Try.ntmps32
  go_wp2
  go_loopw [3] (fun out wr => ∃ (k : Nat) (m : List UInt8), k ≤ l.length ∧ Hid (m = dbl (l.take k)) ∧ m.length ≤ 2000000000000 ∧ Hid (∀ j, j < k → 1 ≤ (l.getD j 0).toNat ∧ (l.getD j 0).toNat ≤ 127) ∧ wr.heap[w.heap.size]? = some (.stringIter s k) ∧ OwnB wr (w.heap.size + 1) out m ∧ Below w.heap.size w wr) (fun _ wr => l.length - wr.iterPos w.heap.size)
  case atStart =>
    refine ⟨0, [], by omega, Lib.hid (by simp [dbl]), by simp, Lib.hid (fun j hj => by omega), World.iter_heap w s 0, OwnB.empty _ _ _, ?_⟩
    exact (Below.refl _ _).alloc (Nat.le_refl _) _
  case round =>
    obtain ⟨k, m, hk, hm, hml, hgood, hit, hown, hb⟩ := hrel
    have HI := Lib.hid hit
    clear hit
    have hbs : w.heap.size < wr.heap.size := (Array.getElem?_eq_some_iff.1 HI.out).1
    by_cases hlt : k < l.length
    · have hks : k < s.size := by rw [hsz.out]; exact hlt
      have hgt : s[k]'hks = l.getD k 0 := by
        have : ∀ (t : ByteArray) (h : k < t.size), t = sOf l → t[k]'h = l.getD k 0 := by
          rintro _ h rfl; exact sOf_get l k h
        exact this s hks hs.out
      have hw1 := reIter_at wr w.heap.size s (k + 1) hbs
      obtain ⟨c, hcc⟩ : ∃ c, Hid (c = l.getD k 0) := ⟨_, Lib.hid rfl⟩
      rw [← hcc.out] at hgt
      by_cases hc : c.toNat < 128
      · have hn := fun ty => @run_next_at Try.prog wr w.heap.size s k c.toNat 1 HI.out hks (by rw [decode_ascii s k hks (by rw [hgt]; exact hc), hgt]) ty
        clear hgt hks
        have hb1 := reIter_below hb w.heap.size s (k + 1) (Nat.le_refl _)
        have hown1 := reIter_own s (k + 1) hown
        have hsz1 := reIter_size wr w.heap.size s (k + 1)
        generalize reIter wr w.heap.size s (k + 1) = w1 at *
        have HW1 := Lib.hid hw1
        have HS1 := Lib.hid hsz1
        clear hw1 hsz1 hown hb
        by_cases h0 : 1 ≤ c.toNat
        · go_wp2_with (at_builtin; refine wpList_append_byt rfl _ _ rfl (w.heap.size + 1) _ m rfl (hown1.alloc _) _ [c, 0] rfl (Byt.two _ _ _ _ _ _ ?c1 ?c1b) ?c2 ?c3 ?_)
          case c1 => rfl
          case c1b => rfl
          case c2 => simp; omega
          case c3 => have := HS1.out; simp; omega
          intro v' w' hown' hg _
          go_wp2
          have hit2 : w'.heap[w.heap.size]? = some (Obj.stringIter s (k + 1)) := by
            have hlt1 : w.heap.size < w1.heap.size := by rw [HS1.out]; exact hbs
            refine (hg.block w.heap.size (by simp; omega) (fun e => ?_)).trans (((Below.refl w1.heap.size w1).alloc (Nat.le_refl _) _).block _ hlt1 |>.trans HW1.out)
            have := (hown1.lt _ e.symm).1
            omega
          refine ⟨⟨k + 1, m ++ [c, 0], by omega, Lib.hid ?_, ?_, Lib.hid ?_, hit2, hown', (hb1.alloc (by rw [HS1.out]; omega) _).grown hg (by have := HS1.out; simp; omega) (fun j hj => by have := (hown1.lt j hj).1; omega)⟩, ?_⟩
          · rw [List.take_succ_eq_append_getElem hlt, dbl_snoc, hm.out, hcc.out]
            simp [List.getD, hlt]
          · have : m.length = 2 * k := by rw [hm.out, dbl_length, List.length_take]; omega
            simp; omega
          · intro j hj
            by_cases e : j = k
            · subst e; rw [← hcc.out]; omega
            · exact hgood.out j (by omega)
          · have e1 : w'.iterPos w.heap.size = k + 1 := by simp [World.iterPos, hit2]
            have e2 : wr.iterPos w.heap.size = k := by simp [World.iterPos, HI.out]
            rw [e1, e2]
            omega
        · have hbad : Hid (W = []) := Lib.hid (by rw [hW.out]; exact wideL_bad l k hlt (by rw [← hcc.out]; omega))
          go_wp2
          go_ret
          exact ⟨_, rfl, by rw [hbad.out]; exact OwnB.empty _ _ _, hb1⟩
      · have hh := decode_high s k hks (by rw [hgt]; omega)
        have hle := decode_le s k
        have hbad : Hid (W = []) := Lib.hid (by rw [hW.out]; exact wideL_bad l k hlt (by rw [← hcc.out]; omega))
        obtain ⟨R, n, hd⟩ : ∃ R n, Utf8.decode s k = (R, n) := ⟨_, _, rfl⟩
        rw [hd] at hh hle
        have hn := fun ty => @run_next_at Try.prog wr w.heap.size s k R n HI.out hks hd ty
        have hb1 := reIter_below hb w.heap.size s (k + n) (Nat.le_refl _)
        clear hgt hks hd hown hb hw1
        obtain ⟨hh1, hh2⟩ := hh
        have hh3 : 128 ≤ R := hh1
        have hle3 : R ≤ 2147483647 := hle
        clear hh1 hh2 hle
        generalize reIter wr w.heap.size s (k + n) = w1 at *
        go_wp2
        go_ret
        exact ⟨_, rfl, by rw [hbad.out]; exact OwnB.empty _ _ _, hb1⟩
    · obtain rfl : k = l.length := by omega
      have hn := fun ty => @run_next_done Try.prog wr w.heap.size s l.length HI.out (by rw [hsz.out]; omega) ty
      go_wp2
      go_ret
      refine ⟨_, rfl, ?_, hb⟩
      rw [hW.out, wideL_good l hgood.out]
      have := hm.out
      rw [List.take_of_length_le (Nat.le_refl _)] at this
      rw [← this]
      exact hown.mono (by omega)
end Go.Proofs.Ytemojckmnlgkdaa
