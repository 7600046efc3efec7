/-
  The contract of the statements' helper Apart: of slices of bytes in rows of their own that do not share one it answers true, and turns nothing that was there ahead of them.
-/
import Derived.Test.YtbcocblamocobaaApart1
import Derived.BigQuiet
import Derived.StillTailTactics
import Derived.WalkSmall
namespace Go.Proofs.Ytbcocblamocobaa
open Go Go.RowKit

theorem byt_drewN {w : World} {v : Value} {l : List UInt8} (n : Nat) (h : Byt w v l) : Byt (w.drewN n) v l := h.below (below_drewN (Below.refl _ _) n)
theorem eqB_true (v1 v2 : Value) (l : List UInt8) (w : World) (h1 : Byt w v1 l) (h2 : Byt w v2 l) :
    Calls Try.prog 14 #[v1, v2] w fun e w' => e = .returned (.bool true) ∧ w' = w := by
  have := calls_still (eqBytes_calls v1 v2 l l w h1 h2)
  rw [decide_eq_true rfl] at this
  exact this

set_option maxRecDepth 100000 in
set_option maxHeartbeats 4000000 in
theorem apart_calls (v : Value) (vs : List Value) (ls : List (List UInt8)) (base : Nat) (w : World) (hall : Own w base 23 1 v vs.length vs)
    (hov : ∀ j, j < vs.length → OwnB w base (vs.getD j (.slice none 0 0)) (ls.getD j [])) (hp : Parted vs) (hn : 1 ≤ vs.length) (hn2 : vs.length ≤ 100) (hl : ∀ j, (ls.getD j []).length ≤ 1000000000000) (hbase : base ≤ w.heap.size) :
    Calls Try.prog 16 #[v] w fun e w' => e = .returned (.bool true) ∧ Below base w w' := by
  obtain ⟨A, cap, rfl, hA1, hA2, hA3, hA4, hA5⟩ := hall.head (by omega)
  unfold maxLen at hA5
  obtain ⟨N, hN⟩ : ∃ N, Hid (N = vs.length) := ⟨_, Lib.hid rfl⟩
  have HALL := Lib.hid hall
  have HOV := Lib.hid hov
  have HL := Lib.hid hl
  clear hall hov hl
  rw [← hN.out] at hA4 hn hn2 ⊢
  go_enter Try.func16, Try.ntmps16
  go_wp2
  go_loopw [3, 4] (fun was i wr => ∃ (k : Nat) (ws : List Value), k ≤ N ∧ i = .int .i64 k ∧ Hid (ws.length = k) ∧ Own wr w.heap.size 23 1 was k ws ∧ Hid (∀ j, j < k → OwnB wr w.heap.size (ws.getD j (.slice none 0 0)) (ls.getD j [])) ∧ Below w.heap.size w wr) (fun _ i _ => N - (intOf i).toNat)
  case atStart => exact ⟨0, [], by omega, rfl, Lib.hid rfl, Own.empty _ _ _ _ _, Lib.hid (fun j hj => by omega), Below.refl _ _⟩
  case round =>
    obtain ⟨k, ws, hk, rfl, hwl, hwas, how, hb⟩ := hrel
    by_cases hlt : k < N
    · have hk' : k < vs.length := by have := hN.out; omega
      have hcell : wr.cell? ⟨A, k, none⟩ = some (vs.getD k (.slice none 0 0)) := (hb.cell (p := ⟨A, k, none⟩) hA2).trans (own_cell (by have := HALL.out; rw [← hN.out] at this; exact this) k hlt)
      have hvk := Lib.hid (((HOV.out k hk').byt).below hb)
      obtain ⟨V, hV⟩ : ∃ V, Hid (V = vs.getD k (.slice none 0 0)) := ⟨_, Lib.hid rfl⟩
      rw [← hV.out] at hcell hvk
      go_wp2_with (first
        | (go_at_call 21; refine (copyBytes_calls _ _ _ hvk.out (by have := HL.out k; omega)).mono ?_; rintro e w1 ⟨u, rfl, hu, hb1⟩; obtain ⟨au, cu, rfl, _, _⟩ := Own.shape hu)
        | (at_builtin; (refine wpList_append_slc (w := w1.alloc _) rfl _ _ rfl w.heap.size _ ws k hwl.out.symm rfl ((hwas.below hb1 (Nat.le_refl _)).alloc _) _ (.slice au _ cu) rfl (Rd.made w1 1 #[.slice au _ cu] 23 1 1 (0, 0) rfl (Nat.le_refl _) (by unfold maxLen; omega)) (Own.one hu) ?c1 ?c2 ?_)))
      case c1 => have := hwl.out; omega
      case c2 => have := hb.size; have := hb1.size; simp; omega
      intro v' w' hown' hg _
      have hb2 := ((hb.trans (hb1.mono hb.size)).alloc (by have := hb.size; have := hb1.size; omega) _).grown hg (by have := hb.size; have := hb1.size; simp; omega) (fun j hj => (hwas.lt j hj).1)
      have how2 : Hid (∀ j, j < k + 1 → OwnB w' w.heap.size ((ws ++ [Value.slice au (ls.getD k []).length cu]).getD j (.slice none 0 0)) (ls.getD j [])) := Lib.hid (by
        intro j hj
        have hq := (hwas.below hb1 (Nat.le_refl _)).alloc (.cells #[Value.slice au (ls.getD k []).length cu] 23)
        by_cases e : j = k
        · subst e
          have := hwl.out
          rw [← this, getD_snoc_eq, this]
          exact OwnB.past (((hu.mono hb.size).alloc _)) hq hg
        · rw [getD_snoc_lt ws _ _ j (by have := hwl.out; omega)]
          exact OwnB.past (((how.out j (by omega)).below hb1).alloc _) hq hg)
      clear hg hu how hwas hb hb1
      go_wp2
      go_roundw
      case rel => exact ⟨k + 1, _, by omega, by go_num, Lib.hid (by have := hwl.out; simp; omega), hown', how2, hb2⟩
      case measure => simp [intOf]; omega
    · obtain rfl : k = N := by omega
      obtain ⟨W0, capW, rfl, hW1, hW2, hW3, hW4, hW5⟩ := hwas.head (by omega)
      obtain ⟨w1, rfl⟩ : ∃ w1 : World, w1 = wr := ⟨_, rfl⟩
      unfold maxLen at hW5
      have hNv := hN.out
      have F : Hid (Fast w w1 base (.slice (some ⟨A, 0, none⟩) k cap) (.slice (some ⟨W0, 0, none⟩) k capW) vs) := Lib.hid (by
        refine ⟨hbase, hb.size, fun b hbb => ?_, fun b hbb => (hwas.lt b hbb).2, fun j hj b hbb => (Own.lt (HOV.out j hj) b hbb).2, hp⟩
        have := (HALL.out).lt b (by rw [← hNv]; exact hbb)
        exact this.2)
      have S : Hid (St2 w w1 w1 base (.slice (some ⟨A, 0, none⟩) k cap) (.slice (some ⟨W0, 0, none⟩) k capW) (.slice none 0 0) vs ws [] ls 0) := Lib.hid (by
        refine ⟨?_, ?_, Own.empty _ _ _ _ _, fun j hj => (HOV.out j hj).below hb, fun j hj => how.out j (by omega), fun j hj => by omega, fun j hj => by omega, rfl, hb.mono hbase, Nat.le_refl _⟩
        · have := HALL.out.below hb (Nat.le_refl _)
          rw [← hNv] at this ⊢
          exact this
        · rw [← hNv]; exact hwas)
      have hb1s := hb.size
      clear hwas how hb HALL HOV hwl hNv hbase hp
      go_wp2
      go_loopw [5, 6] (fun more i wq => ∃ (j : Nat) (ms : List Value), j ≤ k ∧ i = .int .i64 j ∧ Hid (St2 w w1 wq base (.slice (some ⟨A, 0, none⟩) k cap) (.slice (some ⟨W0, 0, none⟩) k capW) more vs ws ms ls j)) (fun _ i _ => k - (intOf i).toNat)
      case atStart => exact ⟨0, [], by omega, rfl, S⟩
      case round =>
        obtain ⟨j, ms, hj, rfl, T⟩ := hrel
        clear S
        obtain ⟨wq, rfl⟩ : ∃ wq : World, wq = wr := ⟨_, rfl⟩
        by_cases hlt : j < k
        · have hj' : j < vs.length := by have := hN.out; omega
          have hcell := own_cell2 T.out.all j hj'
          obtain ⟨V, hV⟩ : ∃ V, Hid (V = vs.getD j (.slice none 0 0)) := ⟨_, Lib.hid rfl⟩
          obtain ⟨l, hll⟩ : ∃ l, Hid (l = ls.getD j []) := ⟨_, Lib.hid rfl⟩
          have hV0 : Hid (∀ b, ownB V = some b → b < wq.heap.size) := Lib.hid (fun b hb => by
            rw [hV.out] at hb
            exact (Own.lt (T.out.ov j hj') b hb).2)
          obtain ⟨c, hcd⟩ : ∃ c, Hid (c = UInt8.ofNat (j + 1)) := ⟨_, Lib.hid rfl⟩
          have G0 : Hid (Grow wq wq base V V l (l ++ List.replicate 0 c)) := Lib.hid (by
            rw [hV.out, hll.out]
            simp only [List.replicate_zero, List.append_nil]
            exact Grow.start (T.out.ov j hj'))
          rw [← hV.out] at hcell
          have hlle : Hid (l.length ≤ 1000000000000) := Lib.hid (by rw [hll.out]; exact HL.out j)
          have hc : Hid (((j : Int) + 1) = (c.toNat : Int)) := Lib.hid (by rw [hcd.out]; rw [UInt8.toNat_ofNat']; omega)
          have hbq : Hid (base ≤ wq.heap.size) := Lib.hid (by have := F.out.base; have := T.out.bel.size; omega)
          go_wp2
          go_loopw [7, 8] (fun g kk wi => ∃ q : Nat, q ≤ 40 ∧ kk = .int .i64 q ∧ Hid (Grow wq wi base V g l (l ++ List.replicate q c))) (fun _ kk _ => 40 - (intOf kk).toNat)
          case atStart => exact ⟨0, by omega, rfl, G0⟩
          case round =>
            obtain ⟨q, hq, rfl, G⟩ := hrel
            clear G0
            by_cases hqt : q < 40
            · have G2 := Lib.hid (G.out.alloc (.cells #[.int .u8 ((j : Int) + 1)] 5))
              go_wp2_with (at_builtin; (refine wpList_append_byt2 rfl _ _ rfl base _ _ rfl G2.out.new _ [c] rfl (Byt.one _ _ _ _ hc.out) ?c1 ?c2 ?_))
              case c1 => have := hlle.out; simp; omega
              case c2 => have := hbq.out; have := G2.out.all.size; omega
              intro v' w' hn hg hch hold
              have G3 := Lib.hid (G2.out.step hV0.out [c] (by rw [List.append_assoc]; exact hn) hg (by simpa using hch) hold)
              clear hn hg hch hold G2
              go_wp2
              go_roundw
              case rel => exact ⟨q + 1, by omega, by go_num, Lib.hid (by have := G3.out; rw [List.append_assoc, ← List.replicate_succ'] at this; exact this)⟩
              case measure => simp [intOf]; omega
            · obtain rfl : q = 40 := by omega
              obtain ⟨n40, hn40⟩ : ∃ n, Hid (n = (l ++ List.replicate 40 c).length) := ⟨_, Lib.hid rfl⟩
              obtain ⟨ag, cg, hgs, _, _⟩ := Own.shape G.out.new
              rw [← hn40.out] at hgs
              subst hgs
              have M := Lib.hid ((T.out.mid F.out hj' (by have := G.out; rw [hV.out, hll.out] at this; exact this)).alloc F.out (.cells #[.slice ag n40 cg] 23))
              have GN := Lib.hid (G.out.new.alloc (.cells #[.slice ag n40 cg] 23))
              have hws := hb1s
              go_wp2_with (at_builtin; (refine wpList_append_slc (w := wr.alloc _) rfl _ _ rfl w1.heap.size _ ms j M.out.len.symm rfl M.out.more _ (.slice ag _ cg) rfl (Rd.made wr 1 #[.slice ag _ cg] 23 1 1 (0, 0) rfl (Nat.le_refl _) (by unfold maxLen; omega)) rfl ?c1 ?c2 ?_))
              case c1 => have := M.out.len; omega
              case c2 => have := M.out.ge; exact this
              intro v' w' hown' hg _
              have P := Lib.hid (M.out.push F.out (by rw [← hll.out, ← hcd.out]; exact GN.out) (by
                rw [← hV.out]
                rcases G.out.whr with e | ⟨b, e, hb⟩
                · exact .inl e
                · exact .inr ⟨b, e, Nat.le_trans T.out.ge hb⟩) hown' hg)
              clear hg hown' M GN
              go_wp2
              go_roundw
              case rel => exact ⟨j + 1, _, by omega, by go_num, P⟩
              case measure => simp [intOf]; omega
        · obtain rfl : j = k := by omega
          obtain ⟨M0, capM, rfl, hM1, hM2, hM3, hM4, hM5⟩ := T.out.more.head (by omega)
          obtain ⟨w3, rfl⟩ : ∃ w3 : World, w3 = wq := ⟨_, rfl⟩
          unfold maxLen at hM5
          have hNv := Lib.hid hN.out
          go_wp2
          go_loopw [9] (fun i wq => ∃ q : Nat, q ≤ j ∧ i = .int .i64 q ∧ Hid (Below w3.heap.size w3 wq)) (fun i _ => j - (intOf i).toNat)
          case atStart => exact ⟨0, by omega, rfl, Lib.hid (Below.refl _ _)⟩
          case round =>
            obtain ⟨q, hq, rfl, B⟩ := hrel
            by_cases hqt : q < j
            · have hq' : q < vs.length := by have := hNv.out; omega
              have T' := Lib.hid (T.out.below F.out B.out)
              have hc1 := own_cell2 T'.out.all q hq'
              have hc2 := own_cell2 T'.out.was q hq'
              have hc3 := own_cell2 T'.out.more q hqt
              have o1 := Lib.hid (T'.out.ov q hq')
              have o2 := Lib.hid (T'.out.ow q hq')
              have o3 := Lib.hid (T'.out.om q hqt)
              obtain ⟨V, hV⟩ : ∃ V, Hid (V = vs.getD q (.slice none 0 0)) := ⟨_, Lib.hid rfl⟩
              obtain ⟨U, hU⟩ : ∃ V, Hid (V = ws.getD q (.slice none 0 0)) := ⟨_, Lib.hid rfl⟩
              obtain ⟨G, hG⟩ : ∃ V, Hid (V = ms.getD q (.slice none 0 0)) := ⟨_, Lib.hid rfl⟩
              obtain ⟨l, hll⟩ : ∃ l, Hid (l = ls.getD q []) := ⟨_, Lib.hid rfl⟩
              obtain ⟨c, hcd⟩ : ∃ c, Hid (c = UInt8.ofNat (q + 1)) := ⟨_, Lib.hid rfl⟩
              rw [← hV.out] at hc1 o1
              rw [← hU.out] at hc2 o2
              rw [← hG.out] at hc3 o3
              rw [← hll.out] at o1 o2 o3
              rw [← hcd.out] at o3
              have hlle : l.length ≤ 1000000000000 := by rw [hll.out]; exact HL.out q
              clear hV hU hG T'
              have E := Lib.hid (fun n => eqB_true V U l (wr.drewN n) (byt_drewN n o1.out.byt) (byt_drewN n o2.out.byt))
              obtain ⟨av, cv, hVs, _, _⟩ := Own.shape o1.out
              obtain ⟨au, cu, hUs, _, _⟩ := Own.shape o2.out
              obtain ⟨gb, cg, hGs, _, _, _, hg1, hg2⟩ := Own.head o3.out (by simp)
              obtain ⟨n, hn⟩ : ∃ n, Hid (n = l.length) := ⟨_, Lib.hid rfl⟩
              have hm40 : (l ++ List.replicate 40 c).length = n + 40 := by simp [hn.out]
              rw [hm40] at hGs hg1
              rw [← hn.out] at hVs hUs hlle
              subst hVs hUs hGs
              have hcell : ∀ p, p < 40 → wr.cell? ⟨gb, n + p, none⟩ = some (.int .u8 ((q : Int) + 1)) := by
                intro p hp
                have := OwnB.cell_at o3.out (n + p) (by rw [hm40]; omega)
                rw [this]
                have e : (l ++ List.replicate 40 c).getD (n + p) 0 = c := by rw [hn.out]; exact getD_rep l c 40 p hp
                rw [e, hcd.out, UInt8.toNat_ofNat']
                congr 2
                omega
              have HC := Lib.hid hcell
              clear hcell hm40
              unfold maxLen at hg2
              go_wp2
              go_loop [11] (fun kk => ∃ p : Nat, p ≤ 40 ∧ kk = .int .i64 p) (fun kk => 40 - (intOf kk).toNat)
              case atStart => exact ⟨0, by omega, rfl⟩
              case round =>
                obtain ⟨p, hp, rfl⟩ := hrel
                by_cases hpt : p < 40
                · have hcp := HC.out p hpt
                  go_wp2
                  go_round
                  case rel => exact ⟨p + 1, by omega, by go_num⟩
                  case measure => simp [intOf]; omega
                · obtain rfl : p = 40 := by omega
                  go_wp2
                  go_quiet ((go_at_call 14; exact Calls.quiet_of_same (E.out _)))
                  go_wp2
                  go_roundw
                  case rel => exact ⟨q + 1, by omega, by go_num, Lib.hid (below_drewN B.out _)⟩
                  case measure => simp [intOf]; omega
            · obtain rfl : q = j := by omega
              have S0 := Lib.hid (T.out.below F.out B.out).four
              clear B T
              go_wp2
              go_loopw [12] (fun i wq => ∃ p : Nat, p ≤ q ∧ i = .int .i64 p ∧ Hid (St4 w wq base (.slice (some ⟨A, 0, none⟩) q cap) (.slice (some ⟨W0, 0, none⟩) q capW) vs ws ls p)) (fun i _ => q - (intOf i).toNat)
              case atStart => exact ⟨0, by omega, rfl, S0⟩
              case round =>
                obtain ⟨p, hp, rfl, S⟩ := hrel
                clear S0
                obtain ⟨w4, rfl⟩ : ∃ w4 : World, w4 = wr := ⟨_, rfl⟩
                by_cases hpt : p < q
                · have hp' : p < vs.length := by have := hNv.out; omega
                  have hc1 := Lib.hid (own_cell2 S.out.all p hp')
                  have o1 := Lib.hid (S.out.ov p (Nat.le_refl _) hp')
                  have hAV : Hid (some A ≠ ownB (vs.getD p (.slice none 0 0))) := Lib.hid (fun e => by
                    refine own_types S.out.all (S.out.ov p (Nat.le_refl _) hp') b8u_ne.symm A ?_ e.symm
                    have : cap ≠ 0 := by omega
                    simp [ownB, this])
                  have NX : Hid (∀ wi, w4.grownBy wi (ownB (vs.getD p (.slice none 0 0))) → St4 w wi base (.slice (some ⟨A, 0, none⟩) q cap) (.slice (some ⟨W0, 0, none⟩) q capW) vs ws ls (p + 1)) := Lib.hid (fun wi hg => S.out.next F.out hp' hg)
                  obtain ⟨V, hV⟩ : ∃ V, Hid (V = vs.getD p (.slice none 0 0)) := ⟨_, Lib.hid rfl⟩
                  obtain ⟨l, hll⟩ : ∃ l, Hid (l = ls.getD p []) := ⟨_, Lib.hid rfl⟩
                  rw [← hV.out] at hc1 o1 hAV NX
                  rw [← hll.out] at o1
                  have hlle : l.length ≤ 1000000000000 := by rw [hll.out]; exact HL.out p
                  clear hV S
                  obtain ⟨av, cv, hVs, hv1, hv2⟩ := Own.shape o1.out
                  obtain ⟨n, hn⟩ : ∃ n, Hid (n = l.length) := ⟨_, Lib.hid rfl⟩
                  rw [← hn.out] at hVs hv1 hlle
                  subst hVs
                  unfold maxLen at hv2
                  have hbq := Lib.hid (World.grownBy.refl w4 (ownB (.slice av n cv)))
                  go_wp2
                  go_loopw [13] (fun kk wi => ∃ (r : Nat) (l' : List UInt8), r ≤ n ∧ kk = .int .i64 r ∧ Hid (l'.length = n) ∧ Hid (OwnB wi base (.slice av n cv) l') ∧ Hid (w4.grownBy wi (ownB (.slice av n cv)))) (fun kk _ => n - (intOf kk).toNat)
                  case atStart => exact ⟨0, l, by omega, rfl, Lib.hid hn.out.symm, o1, hbq⟩
                  case round =>
                    obtain ⟨r, l', hr, rfl, hl', ow, gb⟩ := hrel
                    clear hbq o1
                    obtain ⟨wi, rfl⟩ : ∃ wi : World, wi = wr := ⟨_, rfl⟩
                    have hcA : wi.cell? ⟨A, p, none⟩ = some (.slice av n cv) := World.grownBy.cell gb.out hc1.out hAV.out
                    by_cases hrt : r < n
                    · obtain ⟨gq, cq, hGs, _, _, _, _, _⟩ := Own.head ow.out (by have := hl'.out; omega)
                      simp only [Value.slice.injEq] at hGs
                      obtain ⟨rfl, _, rfl⟩ := hGs
                      have hcell := OwnB.cell_at ow.out r (by have := hl'.out; omega)
                      have hfz := OwnB.free ow.out (by omega) r
                      obtain ⟨c, hcd⟩ : ∃ c, Hid (c = l'.getD r 0) := ⟨_, Lib.hid rfl⟩
                      rw [← hcd.out] at hcell
                      have hcn : cv ≠ 0 := by omega
                      have hset := Lib.hid (OwnB.set ow.out r hrt (c + 1) _ (wrap_succ8 c))
                      have gb2 : Hid (w4.grownBy (wi.setCell ⟨gq, r, none⟩ (.int .u8 (((c.toNat : Int) + 1) % 256))).drew (ownB (.slice (some ⟨gq, 0, none⟩) n cv))) := Lib.hid (gb_drew (gb_trans gb.out (gb_setCell wi gq r _) (.inl (by simp [ownB, hcn]))))
                      clear hcn
                      go_wp2
                      go_still_tail 14, (by kernel_rfl)
                      change wpList _ _ _ _ _ wi.drew
                      go_wp2
                      exact ⟨⟨r + 1, l'.set r (c + 1), by omega, by go_num, Lib.hid (by have := hl'.out; simp only [List.length_set]; omega), Lib.hid (Own.drew hset.out), gb2⟩, by simp [intOf]; omega⟩
                    · obtain rfl : r = n := by omega
                      have S := Lib.hid (NX.out wi gb.out)
                      clear ow gb NX hc1 hAV
                      obtain ⟨w5, rfl⟩ : ∃ w5 : World, w5 = wi := ⟨_, rfl⟩
                      go_wp2
                      go_loopw [14] (fun kk wj => ∃ s : Nat, p + 1 ≤ s ∧ s ≤ q ∧ kk = .int .i64 s ∧ Hid (Below w5.heap.size w5 wj)) (fun kk _ => q - (intOf kk).toNat)
                      case atStart => exact ⟨p + 1, by omega, by omega, by go_num, Lib.hid (Below.refl _ _)⟩
                      case round =>
                        obtain ⟨s, hs1, hs2, rfl, B⟩ := hrel
                        have S6 := Lib.hid (S.out.below F.out.base B.out)
                        by_cases hst : s < q
                        · have hs' : s < vs.length := by have := hNv.out; omega
                          have hc1 := own_cell2 S6.out.all s hs'
                          have hc2 := own_cell2 S6.out.was s hs'
                          have o1 := Lib.hid (S6.out.ov s hs1 hs')
                          have o2 := Lib.hid (S6.out.ow s hs')
                          obtain ⟨V2, hV2⟩ : ∃ V, Hid (V = vs.getD s (.slice none 0 0)) := ⟨_, Lib.hid rfl⟩
                          obtain ⟨U2, hU2⟩ : ∃ V, Hid (V = ws.getD s (.slice none 0 0)) := ⟨_, Lib.hid rfl⟩
                          rw [← hV2.out] at hc1 o1
                          rw [← hU2.out] at hc2 o2
                          have E := Lib.hid (fun n => eqB_true V2 U2 _ (wr.drewN n) (byt_drewN n o1.out.byt) (byt_drewN n o2.out.byt))
                          clear hV2 hU2 S6 o1 o2
                          go_wp2
                          go_quiet ((go_at_call 14; exact Calls.quiet_of_same (E.out _)))
                          go_wp2
                          go_roundw
                          case rel => exact ⟨s + 1, by omega, by omega, by go_num, Lib.hid (below_drewN B.out _)⟩
                          case measure => simp [intOf]; omega
                        · obtain rfl : s = q := by omega
                          go_wp2
                          go_roundw
                          case rel => exact ⟨p + 1, by omega, by go_num, S6⟩
                          case measure => simp [intOf]; omega
                · obtain rfl : p = q := by omega
                  go_wp2
                  go_ret
                  exact ⟨rfl, S.out.bel⟩
end Go.Proofs.Ytbcocblamocobaa
