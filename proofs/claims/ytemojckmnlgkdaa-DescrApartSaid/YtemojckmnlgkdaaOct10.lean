/-
  Narrow's contract in one answer; the document's own Narrow and Wide.
-/
import Derived.Test.YtemojckmnlgkdaaOct9
namespace Go.Proofs.Ytemojckmnlgkdaa
open Go Go.RowKit

instance (l : List UInt8) (x : Nat) : Decidable (pairOk l x) := by unfold pairOk; infer_instance
def narOk (l : List UInt8) : Bool := decide (∀ x, x < (l.length + 1) / 2 → pairOk l x)
theorem narOk_iff (l : List UInt8) : narOk l = true ↔ ∀ x, 2 * x < l.length → pairOk l x := by
  unfold narOk
  rw [decide_eq_true_iff]
  exact ⟨fun h x hx => h x (by omega), fun h x hx => h x (by omega)⟩
theorem narOk_not (l : List UInt8) (h : ∃ x, 2 * x < l.length ∧ ¬ pairOk l x) : narOk l = false := by
  rw [Bool.eq_false_iff]
  intro h2
  obtain ⟨x, h1, h3⟩ := h
  exact h3 ((narOk_iff l).1 h2 x h1)
def evs (l : List UInt8) (k : Nat) : List UInt8 := (List.range k).map fun i => l.getD (2 * i) 0
theorem evs_succ (l : List UInt8) (k : Nat) : evs l (k + 1) = evs l k ++ [l.getD (2 * k) 0] := by simp [evs, List.range_succ]
theorem evs_length (l : List UInt8) (k : Nat) : (evs l k).length = k := by simp [evs]
def narS (l : List UInt8) : List UInt8 := if narOk l then evs l ((l.length + 1) / 2) else []
def narE (l : List UInt8) : Int := if narOk l then 0 else 9

set_option maxHeartbeats 1600000 in
theorem refWide_calls (l : List UInt8) (w : World) (hl : l.length ≤ 1000000000000) :
    Calls Try.prog 33 #[.string (sOf l)] w fun e w' => ∃ v', e = .returned v' ∧ OwnB w' w.heap.size v' (wideL l) ∧ Below w.heap.size w w' := by
  obtain ⟨s, hs⟩ : ∃ s, Hid (s = sOf l) := ⟨_, Lib.hid rfl⟩
  have hsz : s.size = l.length := by rw [hs.out, sOf_size]
  have hix : Hid (∀ k : Nat, k < l.length → ∀ W : World, (Instr.index 9 (.string s) (.int .i64 (k : Int))).run Try.prog W = .ok (.int .u8 (l.getD k 0).toNat) W) := Lib.hid (by
    intro k hk W
    have : ∀ (t : ByteArray), t = sOf l → (Instr.index 9 (.string t) (.int .i64 (k : Int))).run Try.prog W = .ok (.int .u8 (l.getD k 0).toNat) W := by
      rintro t rfl
      rw [run_index_string _ _ _ _ _ Try.underlying9, dif_pos ⟨by omega, by rw [sOf_size]; omega⟩]
      simp only [Int.toNat_natCast]
      rw [sOf_get l k (by rw [sOf_size]; exact hk)]
    exact this s hs.out)
  rw [← hs.out]
  obtain ⟨V, hV⟩ : ∃ V, Hid (V = wideL l) := ⟨_, Lib.hid rfl⟩
  rw [← hV.out]
  obtain ⟨n, hn⟩ : ∃ n, Hid (n = l.length) := ⟨_, Lib.hid rfl⟩
  rw [← hn.out] at hsz hl hix
  go_enter Try.func33, Try.ntmps33
  go_wp2
  go_loopw [3, 4] (fun out i wr => ∃ (k : Nat) (m : List UInt8), k ≤ n ∧ Hid (m = dbl (l.take k)) ∧ m.length ≤ 2000000000000 ∧ i = .int .i64 k ∧ Hid (∀ j, j < k → 1 ≤ (l.getD j 0).toNat ∧ (l.getD j 0).toNat ≤ 127) ∧ OwnB wr w.heap.size out m ∧ Below w.heap.size w wr) (fun _ i _ => n - (intOf i).toNat)
  case atStart => exact ⟨0, [], by omega, Lib.hid (by simp [dbl]), by simp, rfl, Lib.hid (fun j hj => by omega), OwnB.empty _ _ _, Below.refl _ _⟩
  case round =>
    obtain ⟨k, m, hk, hm, hml, rfl, hgood, hown, hb⟩ := hrel
    by_cases hlt : k < n
    · have hx := hix.out k hlt
      obtain ⟨c, hcc⟩ : ∃ c, Hid (c = l.getD k 0) := ⟨_, Lib.hid rfl⟩
      rw [← hcc.out] at hx
      have hc8 := c.toNat_lt
      have hbad : Hid (¬ (1 ≤ c.toNat ∧ c.toNat ≤ 127) → V = []) := Lib.hid (fun h => by
        rw [hV.out]
        exact wideL_bad l k (by rw [← hn.out]; exact hlt) (by rw [← hcc.out]; exact h))
      by_cases g0 : c.toNat = 0
      · have hb0 := Lib.hid (hbad.out (by omega))
        obtain rfl : c = 0 := UInt8.toNat_inj.1 g0
        clear g0 hc8 hbad
        go_wp2
        go_ret
        exact ⟨_, rfl, by rw [hb0.out]; exact OwnB.empty _ _ _, hb⟩
      · by_cases g1 : c.toNat ≤ 127
        · have g0' : 1 ≤ c.toNat := by omega
          clear hbad g0
          go_wp2_with (at_builtin; refine wpList_append_byt rfl _ _ rfl w.heap.size _ m rfl (hown.alloc _) _ [c, 0] rfl (Byt.two _ _ _ _ _ _ ?c1 ?c1b) ?c2 ?c3 ?_)
          case c1 => rfl
          case c1b => rfl
          case c2 => simp; omega
          case c3 => have := hb.size; simp; omega
          intro v' w' hown' hg _
          go_wp2
          have e := hn.out
          have hml2 : m.length = 2 * k := by rw [hm.out, dbl_length, List.length_take]; omega
          refine ⟨⟨k + 1, m ++ [c, 0], by omega, Lib.hid ?_, ?_, by go_num, Lib.hid ?_, hown', (hb.alloc hb.size _).grown hg (by have := hb.size; simp; omega) (fun j hj => (hown.lt j hj).1)⟩, by simp [intOf]; omega⟩
          · rw [List.take_succ_eq_append_getElem (by omega), dbl_snoc, hm.out, hcc.out]
            simp [List.getD, show k < l.length by omega]
          · simp; omega
          · intro j hj
            by_cases e : j = k
            · subst e; rw [← hcc.out]; omega
            · exact hgood.out j (by omega)
        · have hb0 := Lib.hid (hbad.out (by omega))
          have g2 : 128 ≤ c.toNat := by omega
          clear hbad g0 g1
          go_wp2
          go_ret
          exact ⟨_, rfl, by rw [hb0.out]; exact OwnB.empty _ _ _, hb⟩
    · obtain rfl : k = n := by omega
      go_wp2
      go_ret
      refine ⟨_, rfl, ?_, hb⟩
      have e := hn.out
      rw [hV.out, wideL_good l (fun j hj => hgood.out j (by omega))]
      have := hm.out
      rw [List.take_of_length_le (by omega)] at this
      rw [← this]
      exact hown
end Go.Proofs.Ytemojckmnlgkdaa
