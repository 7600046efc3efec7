/-
  The walk of the law OctetPieces.
-/
import Derived.Test.YtookmdkcpbpofaaCutOpen
namespace Go.Proofs.Ytookmdkcpbpofaa
open Go Go.RowKit

set_option maxHeartbeats 3200000 in
theorem octetPieces_walk (v : Value) (l : List UInt8) (vs : Value) (ls : List UInt8) (w : World) (hv : Byt w v l) (hvs : Byt w vs ls) :
    Calls Try.prog 7 #[v, vs] w fun e w' => e = .returned (.bool true) ∧ Below w.heap.size w w' := by
  obtain ⟨a, cap, rfl, h1, h2, _⟩ := hv.open
  obtain ⟨as1, caps, rfl, g1, g2, g3⟩ := hvs.open
  unfold maxLen at h2 g2
  by_cases hb : 4096 < l.length
  · go_enter Try.func7, Try.ntmps7
    go_wp2_with (go_at_call 12; refine (works_calls _).mono ?_; rintro e w1 ⟨rfl, hb1⟩)
    go_ret
    exact ⟨rfl, hb1⟩
  · by_cases hbs : 100 < ls.length
    · go_enter Try.func7, Try.ntmps7
      go_wp2_with (go_at_call 12; refine (works_calls _).mono ?_; rintro e w1 ⟨rfl, hb1⟩)
      go_ret
      exact ⟨rfl, hb1⟩
    · obtain ⟨L, hL⟩ : ∃ L, Hid (L = l.length) := ⟨_, Lib.hid rfl⟩
      obtain ⟨M, hM⟩ : ∃ M, Hid (M = ls.length) := ⟨_, Lib.hid rfl⟩
      have hvb : Hid (Byt w (.slice a L cap) l) := Lib.hid (by rw [hL.out]; exact hv)
      rw [← hL.out] at hb h1 ⊢
      rw [← hM.out] at hbs g1 g3 ⊢
      clear hv hvs
      go_enter Try.func7, Try.ntmps7
      go_wp2
      go_loopw [5, 6] (fun out i wr => ∃ (k K : Nat) (a2 : Option Addr) (cap2 : Nat), k ≤ M ∧ K ≤ L ∧ i = .int .i64 k ∧ out = .slice a2 K cap2 ∧ OwnB wr w.heap.size (.slice a2 K cap2) (l.take K) ∧ Below w.heap.size w wr) (fun _ i _ => M - (intOf i).toNat)
      case atStart => exact ⟨0, 0, none, 0, by omega, by omega, rfl, rfl, OwnB.empty _ _ _, Below.refl _ _⟩
      case round =>
        obtain ⟨k, K, a2, cap2, hk, hK, rfl, rfl, hown, hbb⟩ := hrel
        have hKL : Hid (K ≤ l.length) := Lib.hid (by rw [← hL.out]; exact hK)
        obtain ⟨D, hD⟩ : ∃ D, Hid (D = L - K) := ⟨_, Lib.hid rfl⟩
        have hsub : IntKind.i64.wrap ((L : Int) - (K : Int)) = (D : Int) := by
          rw [hD.out]
          rw [IntWalk.i64_in _ (by omega)]
          omega
        have hDl : D ≤ 4096 := by rw [hD.out]; omega
        by_cases hlt : k < M
        · obtain ⟨b, off, rfl, hc0⟩ := g3 k hlt
          have hc := (hbb.cell (p := ⟨b, off + k, none⟩) (lt_of_cell hc0)).trans hc0
          clear g3 hc0
          obtain ⟨c, hcc⟩ : ∃ c, Hid (c = ls.getD k 0) := ⟨_, Lib.hid rfl⟩
          rw [← hcc.out] at hc
          have hc8 := c.toNat_lt
          obtain ⟨m, hm⟩ : ∃ m, m = min c.toNat D := ⟨_, rfl⟩
          have hmD : m ≤ D := by omega
          have hmin : ∀ W : World, (Builtin.min_ #[3, 3] 3 #[.int .i64 (c.toNat : Int), .int .i64 (D : Int)]).run Try.prog W = .ok (.int .i64 (m : Int)) W := fun W => by
            simp only [Builtin.min_, Builtin.min2, List.foldlM_cons, List.foldlM_nil, Sem.run_bind, Sem.run_pure, Result.andThen_ok]
            congr 2
            split <;> omega
          have hw : withinB l.length (K : Int) (m : Int) = true := by
            rw [withinB_iff]
            have := hD.out
            have := hL.out
            omega
          have hC := cut_open l K m (by unfold I64; omega) (by unfold I64; omega) (by have := hL.out; omega) m (seg l K m) true (by unfold cutL; rw [hw]; rfl) (by rw [seg_length l K m hw]; omega) hw
          have HC := Lib.hid (hC _ wr (hvb.out.below hbb))
          have hts : Hid (l.take K ++ seg l K m = l.take (K + m)) := Lib.hid (take_seg l K m (by have := hD.out; have := hL.out; omega))
          have hsegl : Hid ((seg l K m).length = m) := Lib.hid (by rw [seg_length l K m hw]; omega)
          clear hC hw hm hcc
          go_wp2_with (first
            | (go_at_call 18; refine HC.out.mono ?_; rintro e w2 ⟨a3, cap3, rfl, hown3, hb3⟩)
            | (at_builtin; refine wpList_append_byt rfl _ _ rfl w.heap.size _ (l.take K) rfl (hown.below hb3) _ (seg l K m) rfl hown3.byt ?c2 ?c3 ?_))
          case c2 => rw [List.length_take, hsegl.out]; omega
          case c3 => exact Nat.le_trans hbb.size hb3.size
          intro v' w' hown' hg _
          rw [hts.out] at hown'
          obtain ⟨a5, cap5, rfl, _⟩ := hown'.byt.open
          have hKm : K + m ≤ L := by have := hD.out; omega
          rw [show (l.take (K + m)).length = K + m by rw [List.length_take]; have := hL.out; omega] at hown' ⊢
          go_wp2
          exact ⟨⟨k + 1, K + m, a5, cap5, by omega, hKm, by go_num, rfl, hown', (hbb.trans (hb3.mono hbb.size)).grown hg (Nat.le_trans hbb.size hb3.size) (fun j hj => ((hown.below hb3).lt j hj).1)⟩, by simp [intOf]; omega⟩
        · clear g3
          have hw1 : withinB l.length (K : Int) (D : Int) = true := by
            rw [withinB_iff]
            have := hD.out
            have := hL.out
            omega
          have hw2 : withinB l.length (K : Int) ((D : Int) + 1) = false := by
            rw [Bool.eq_false_iff]
            intro h
            rw [withinB_iff] at h
            have := hD.out
            have := hL.out
            omega
          have hC1 := cut_open l K D (by unfold I64; omega) (by unfold I64; omega) (by have := hL.out; omega) D (seg l K D) true (by unfold cutL; rw [hw1]; rfl) (by rw [seg_length l K D hw1]; omega) hw1
          have hC2 := cut_open l K ((D : Int) + 1) (by unfold I64; omega) (by unfold I64; omega) (by have := hL.out; omega) 0 [] false (by unfold cutL; rw [hw2]; rfl) rfl hw2
          have HC1 := Lib.hid (hC1 _ wr (hvb.out.below hbb))
          have HC2 := Lib.hid hC2
          have hts : Hid (l.take K ++ seg l K D = l) := Lib.hid (by
            rw [take_seg l K D (by have := hD.out; have := hL.out; omega), List.take_of_length_le (by have := hD.out; have := hL.out; omega)])
          have hsegl : Hid ((seg l K D).length = D) := Lib.hid (by rw [seg_length l K D hw1]; omega)
          clear hC1 hC2 hw1 hw2
          go_wp2_with fail
          refine HC1.out.mono ?_
          rintro e w2 ⟨a3, cap3, rfl, hown3, hb3⟩
          have hv2 := (hvb.out.below hbb).below hb3
          go_wp2_with (first
            | (go_at_call 18; refine (HC2.out _ _ hv2).mono ?_; rintro e w4 ⟨a4, cap4, rfl, hown4, hb4⟩)
            | (at_builtin; refine wpList_append_byt rfl _ _ rfl w.heap.size _ (l.take K) rfl ((hown.below hb3).below hb4) _ (seg l K D) rfl (hown3.below hb4).byt (by rw [List.length_take, hsegl.out]; omega) (Nat.le_trans (Nat.le_trans hbb.size hb3.size) hb4.size) ?_; rw [hts.out]; intro v5 w5 hown5 hg5 _; have hB5 := ((hbb.trans (hb3.mono hbb.size)).trans (hb4.mono (Nat.le_trans hbb.size hb3.size))).grown hg5 (Nat.le_trans (Nat.le_trans hbb.size hb3.size) hb4.size) (fun j hj => (((hown.below hb3).below hb4).lt j hj).1); have HQ := Lib.hid (eqBytes_calls _ _ _ _ _ hown5.byt (hvb.out.below hB5)))
            | (go_at_call 20; refine HQ.out.mono ?_; rintro e w7 ⟨rfl, rfl⟩)
            | (go_at_call 12; refine (works_calls _).mono ?_; rintro e w8 ⟨rfl, hb8⟩))
          go_ret
          exact ⟨rfl, hB5.trans (hb8.mono hB5.size)⟩
end Go.Proofs.Ytookmdkcpbpofaa
