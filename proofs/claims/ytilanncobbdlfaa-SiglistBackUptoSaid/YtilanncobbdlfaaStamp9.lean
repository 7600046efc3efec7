/-
  The contract of stamp's Read.
-/
import Derived.Test.YtilanncobbdlfaaStamp8
import Derived.Test.YtilanncobbdlfaaStampEq
namespace Go.Proofs.Ytilanncobbdlfaa
open Go Go.RowKit

def bz (l : List UInt8) (i : Nat) : Int := ((l.getD i 0).toNat : Int)
theorem bz_bd (l : List UInt8) (i : Nat) : 0 ≤ bz l i ∧ bz l i ≤ 255 := by unfold bz; have := (l.getD i 0).toNat_lt; omega
/-- The moment that sixteen bytes would be. -/
def rdT (l : List UInt8) : Tm := ⟨bz l 0 + 256 * bz l 1, bz l 2, bz l 3, bz l 4, bz l 5, bz l 6⟩
theorem rdT_fit (l : List UInt8) : (rdT l).Fit := by
  have h0 := bz_bd l 0
  have h1 := bz_bd l 1
  exact ⟨by show 0 ≤ bz l 0 + 256 * bz l 1 ∧ bz l 0 + 256 * bz l 1 ≤ 65535; omega, bz_bd l 2, bz_bd l 3, bz_bd l 4, bz_bd l 5, bz_bd l 6⟩
def isZ (t : Tm) : Bool := eqT t tm0
def rdB (l : List UInt8) : Bool := decide (l.length = 16 ∧ mxL (l.drop 7) 9 = 0) && (isZ (rdT l) || rightB (rdT l))
def rd (l : List UInt8) : Tm := if rdB l then rdT l else tm0
def rdE (l : List UInt8) : Int := if rdB l then 0 else 9

theorem rd_yes (l : List UInt8) (h : rdB l = true) : rd l = rdT l ∧ rdE l = 0 := by unfold rd rdE; rw [h]; exact ⟨rfl, rfl⟩
theorem rd_no (l : List UInt8) (h : rdB l = false) : rd l = tm0 ∧ rdE l = 9 := by unfold rd rdE; rw [h]; exact ⟨rfl, rfl⟩

theorem byt_from {w : World} {b off n cap k : Nat} {l : List UInt8} (h : Byt w (.slice (some ⟨b, off, none⟩) n cap) l) (hk : k ≤ l.length) : Byt w (.slice (some ⟨b, off + k, none⟩) (n - k) (cap - k)) (l.drop k) := by
  obtain ⟨a, c, e, h1, h2, h3⟩ := h.open
  simp only [Value.slice.injEq] at e
  obtain ⟨rfl, rfl, rfl⟩ := e
  refine Byt.of (by simp) (by omega) (by omega) fun i hi => ?_
  simp only [List.length_drop] at hi
  obtain ⟨b', off', e, hc⟩ := h3 (k + i) (by omega)
  cases e
  refine ⟨b, off + k, rfl, ?_⟩
  rw [Nat.add_assoc, hc]
  simp [List.getD]

theorem got2 (l : List UInt8) (h : l.length = 16) : ((gotL l 0 2 : Nat) : Int) = bz l 0 + 256 * bz l 1 := by
  unfold gotL
  rw [show getOk l 0 2 = true by unfold getOk; rw [show sizedB 2 = true by decide, (withinB_iff _ _ _).2 (by omega)]; rfl, if_pos rfl]
  match l, h with
  | c0 :: c1 :: r, _ =>
    simp [seg, numL, bz]

set_option maxRecDepth 100000 in
set_option maxHeartbeats 8000000 in
theorem read_calls (v : Value) (l : List UInt8) (w : World) (hv : Byt w v l) (hl : l.length ≤ 1000000000000) :
    Calls Try.prog 49 #[v] w fun e w' => e = .returned (.tuple #[tmV (rd l), .int .i64 (rdE l)]) ∧ Below w.heap.size w w' := by
  obtain ⟨a, cap, rfl, h1, h2, hc⟩ := hv.open
  unfold maxLen at h2
  have HV := Lib.hid hv
  clear hv
  by_cases hlen : l.length = 16
  · obtain ⟨b, off, rfl, _⟩ := hc 0 (by omega)
    have HLEN := Lib.hid hlen
    have HC : Hid (∀ i, i < 16 → w.cell? ⟨b, off + i, none⟩ = some (.int .u8 (bz l i))) := Lib.hid (fun i hi => by
      obtain ⟨b', off', e, h⟩ := hc i (by omega)
      cases e
      exact h)
    have h7 := byt_from HV.out (k := 7) (by omega)
    rw [hlen] at h7 h1 ⊢
    rw [hlen] at HV
    have H7 := Lib.hid h7
    clear hc hlen h7 hl
    obtain ⟨M, hM⟩ : ∃ M, Hid (M = mxL (l.drop 7) 9) := ⟨_, Lib.hid rfl⟩
    have hMb : 0 ≤ M ∧ M ≤ 255 := by rw [hM.out]; exact mxL_bd _ _
    have HM : Hid (∀ W, Below w.heap.size w W → Calls Try.prog 56 #[.slice (some ⟨b, off + 7, none⟩) 9 (cap - 7)] W fun e w' => e = .returned (.int .u8 M) ∧ W = w') := Lib.hid (fun W hW => by
      rw [hM.out]
      have hd : (l.drop 7).length = 9 := by rw [List.length_drop, HLEN.out]
      have := max_calls _ (l.drop 7) W (H7.out.below hW) (by omega) (by omega)
      rw [hd] at this
      exact this)
    have hb0 : Below w.heap.size w (w.alloc (.cells #[.int .u16 0, .int .u8 0, .int .u8 0, .int .u8 0, .int .u8 0, .int .u8 0] 72)) := (Below.refl _ _).alloc (Nat.le_refl _) _
    have HB0 := Lib.hid hb0
    clear hb0
    by_cases hM0 : M = 0
    · subst hM0
      obtain ⟨Y, hY⟩ : ∃ Y : Int, Hid (Y = bz l 0 + 256 * bz l 1) := ⟨_, Lib.hid rfl⟩
      have hYb : 0 ≤ Y ∧ Y ≤ 65535 := by rw [hY.out]; have := bz_bd l 0; have := bz_bd l 1; omega
      have HG : Hid (∀ W, Below w.heap.size w W → Calls Try.prog 48 #[.slice (some ⟨b, off, none⟩) 16 cap, .int .i64 0, .int .i64 2] W fun e w' => e = .returned (.tuple #[.int .u64 Y, .int .i64 0]) ∧ Below W.heap.size W w') := Lib.hid (fun W hW => by
        have := get_calls _ l 0 2 W (HV.out.below hW) (by unfold I64; omega) (by unfold I64; omega) (by have := HLEN.out; omega)
        rw [got2 l HLEN.out, ← hY.out, show gotE l 0 2 = 0 by unfold gotE getOk; rw [show sizedB 2 = true by decide, (withinB_iff _ _ _).2 (by have := HLEN.out; omega)]; rfl] at this
        exact this)
      obtain ⟨x2, hx2⟩ : ∃ x, Hid (x = bz l 2) := ⟨_, Lib.hid rfl⟩
      obtain ⟨x3, hx3⟩ : ∃ x, Hid (x = bz l 3) := ⟨_, Lib.hid rfl⟩
      obtain ⟨x4, hx4⟩ : ∃ x, Hid (x = bz l 4) := ⟨_, Lib.hid rfl⟩
      obtain ⟨x5, hx5⟩ : ∃ x, Hid (x = bz l 5) := ⟨_, Lib.hid rfl⟩
      obtain ⟨x6, hx6⟩ : ∃ x, Hid (x = bz l 6) := ⟨_, Lib.hid rfl⟩
      have hTd : Hid (rdT l = ⟨Y, x2, x3, x4, x5, x6⟩) := Lib.hid (by rw [hY.out, hx2.out, hx3.out, hx4.out, hx5.out, hx6.out]; rfl)
      have hfit : Hid (Tm.Fit ⟨Y, x2, x3, x4, x5, x6⟩) := Lib.hid (by rw [← hTd.out]; exact rdT_fit l)
      have c2 := HC.out 2 (by omega)
      have c3 := HC.out 3 (by omega)
      have c4 := HC.out 4 (by omega)
      have c5 := HC.out 5 (by omega)
      have c6 := HC.out 6 (by omega)
      rw [← hx2.out] at c2
      rw [← hx3.out] at c3
      rw [← hx4.out] at c4
      rw [← hx5.out] at c5
      rw [← hx6.out] at c6
      have hYw : IntKind.u16.wrap Y = Y := by rw [IntKind.wrap_u16]; omega
      obtain ⟨Z, hZ⟩ : ∃ Z, Hid (Z = isZ ⟨Y, x2, x3, x4, x5, x6⟩) := ⟨_, Lib.hid rfl⟩
      have hneq : ∀ W, (binOp .neq 72 (.agg #[.int .u16 Y, .int .u8 x2, .int .u8 x3, .int .u8 x4, .int .u8 x5, .int .u8 x6]) (.agg #[.int .u16 0, .int .u8 0, .int .u8 0, .int .u8 0, .int .u8 0, .int .u8 0])).run Try.prog W = .ok (.bool (!Z)) W := fun W => by
        rw [hZ.out]; exact run_tm_neq ⟨Y, x2, x3, x4, x5, x6⟩ tm0 W
      obtain ⟨R, hR⟩ : ∃ R, Hid (R = rightB ⟨Y, x2, x3, x4, x5, x6⟩) := ⟨_, Lib.hid rfl⟩
      have HR : Hid (∀ W, Calls Try.prog 57 #[.agg #[.int .u16 Y, .int .u8 x2, .int .u8 x3, .int .u8 x4, .int .u8 x5, .int .u8 x6]] W fun e w' => e = .returned (.bool R) ∧ Below W.heap.size W w') := Lib.hid (fun W => by rw [hR.out]; exact right_calls _ W hfit.out)
      go_enter Try.func49, Try.ntmps49
      go_wp2_with (first
        | (go_at_call 56; refine (HM.out _ HB0.out).mono ?_; rintro e w1 ⟨rfl, rfl⟩)
        | (go_at_call 48; refine (HG.out _ HB0.out).mono ?_; rintro e w2 ⟨rfl, hb⟩; have HB2 := Lib.hid (HB0.out.trans (hb.mono HB0.out.size)); have hw2z : w.heap.size < w2.heap.size := (by have hq := hb.size; simp at hq; omega); have hcz : ∀ o, w2.cell? ⟨w.heap.size, o, none⟩ = _ := (fun o => hb.cell (p := ⟨w.heap.size, o, none⟩) (by simp)); have hfz : ∀ o, w2.frozen? ⟨w.heap.size, o, none⟩ = _ := (fun o => hb.frozen (p := ⟨w.heap.size, o, none⟩) (by simp)); clear hb))
      have k2 := (HB2.out.cell (p := ⟨b, off + 2, none⟩) (lt_of_cell c2)).trans c2
      have k3 := (HB2.out.cell (p := ⟨b, off + 3, none⟩) (lt_of_cell c3)).trans c3
      have k4 := (HB2.out.cell (p := ⟨b, off + 4, none⟩) (lt_of_cell c4)).trans c4
      have k5 := (HB2.out.cell (p := ⟨b, off + 5, none⟩) (lt_of_cell c5)).trans c5
      have k6 := (HB2.out.cell (p := ⟨b, off + 6, none⟩) (lt_of_cell c6)).trans c6
      clear c2 c3 c4 c5 c6
      go_region_held3 (fun w' => w'.cell? ⟨b, off + 2, none⟩ = some (.int .u8 x2) ∧ w'.cell? ⟨b, off + 3, none⟩ = some (.int .u8 x3) ∧ w'.cell? ⟨b, off + 4, none⟩ = some (.int .u8 x4) ∧ w'.cell? ⟨b, off + 5, none⟩ = some (.int .u8 x5) ∧ w'.cell? ⟨b, off + 6, none⟩ = some (.int .u8 x6)) (go_keep) (fail)
      clear k2 k3 k4 k5 k6
      cases Z with
      | true =>
        have hres : Hid (Ending.returned (.tuple #[.agg #[.int .u16 Y, .int .u8 x2, .int .u8 x3, .int .u8 x4, .int .u8 x5, .int .u8 x6], .int .i64 0]) = .returned (.tuple #[tmV (rd l), .int .i64 (rdE l)])) := Lib.hid (by
          have hB : rdB l = true := by
            unfold rdB
            rw [decide_eq_true (⟨HLEN.out, hM.out.symm⟩ : l.length = 16 ∧ mxL (l.drop 7) 9 = 0), hTd.out, ← hZ.out]
            rfl
          rw [(rd_yes l hB).1, (rd_yes l hB).2, hTd.out]
          rfl)
        go_wp2
        exact bodyPost_ret (v := .tuple #[.agg #[.int .u16 Y, .int .u8 x2, .int .u8 x3, .int .u8 x4, .int .u8 x5, .int .u8 x6], .int .i64 0]) (by simp [results, Try.results49, go_sem, hcz, hw2z, World.cell?_alloc_some, World.cell?_setCell_far]) rfl ⟨hres.out, by
          repeat' (first
            | with_reducible exact Below.refl _ _
            | with_reducible exact HB2.out
            | with_reducible refine Below.drew ?_
            | with_reducible refine Below.setCell ?_ ?_ _
            | with_reducible refine Below.alloc ?_ ?_ _
            | with_reducible refine Below.trans ?_ (Below.mono HB3.out ?_)
            | omega
            | (simp <;> omega))⟩
      | false =>
        cases R with
        | true =>
          have hres : Hid (Ending.returned (.tuple #[.agg #[.int .u16 Y, .int .u8 x2, .int .u8 x3, .int .u8 x4, .int .u8 x5, .int .u8 x6], .int .i64 0]) = .returned (.tuple #[tmV (rd l), .int .i64 (rdE l)])) := Lib.hid (by
            have hB : rdB l = true := by
              unfold rdB
              rw [decide_eq_true (⟨HLEN.out, hM.out.symm⟩ : l.length = 16 ∧ mxL (l.drop 7) 9 = 0), hTd.out, ← hZ.out, ← hR.out]
              rfl
            rw [(rd_yes l hB).1, (rd_yes l hB).2, hTd.out]
            rfl)
          go_wp2_with (go_at_call 57; refine (HR.out _).mono ?_; rintro e w3 ⟨rfl, hb3⟩; have HB3 := Lib.hid hb3; have hcz3 : ∀ o, w3.cell? ⟨w.heap.size, o, none⟩ = _ := (fun o => hb3.cell (p := ⟨w.heap.size, o, none⟩) (by first | omega | (simp; omega))); have hfz3 : ∀ o, w3.frozen? ⟨w.heap.size, o, none⟩ = _ := (fun o => hb3.frozen (p := ⟨w.heap.size, o, none⟩) (by first | omega | (simp; omega))); have hcy3 : ∀ o, w3.cell? ⟨w2.heap.size, o, none⟩ = _ := (fun o => hb3.cell (p := ⟨w2.heap.size, o, none⟩) (by first | omega | simp)); clear hb3)
          exact bodyPost_ret (v := .tuple #[.agg #[.int .u16 Y, .int .u8 x2, .int .u8 x3, .int .u8 x4, .int .u8 x5, .int .u8 x6], .int .i64 0]) (by simp [results, Try.results49, go_sem, hcz, hw2z, hcz3, hcy3, World.cell?_alloc_some, World.cell?_setCell_far]) rfl ⟨hres.out, by
            repeat' (first
              | with_reducible exact Below.refl _ _
              | with_reducible exact HB2.out
              | with_reducible refine Below.drew ?_
              | with_reducible refine Below.setCell ?_ ?_ _
              | with_reducible refine Below.alloc ?_ ?_ _
              | with_reducible refine Below.trans ?_ (Below.mono HB3.out ?_)
              | omega
              | (simp <;> omega))⟩
        | false =>
          have hres : Hid (Ending.returned (.tuple #[.agg #[.int .u16 0, .int .u8 0, .int .u8 0, .int .u8 0, .int .u8 0, .int .u8 0], .int .i64 9]) = .returned (.tuple #[tmV (rd l), .int .i64 (rdE l)])) := Lib.hid (by
            have hB : rdB l = false := by
              unfold rdB
              rw [decide_eq_true (⟨HLEN.out, hM.out.symm⟩ : l.length = 16 ∧ mxL (l.drop 7) 9 = 0), hTd.out, ← hZ.out, ← hR.out]
              rfl
            rw [(rd_no l hB).1, (rd_no l hB).2]
            rfl)
          go_wp2_with (go_at_call 57; refine (HR.out _).mono ?_; rintro e w3 ⟨rfl, hb3⟩; have HB3 := Lib.hid hb3; have hcz3 : ∀ o, w3.cell? ⟨w.heap.size, o, none⟩ = _ := (fun o => hb3.cell (p := ⟨w.heap.size, o, none⟩) (by first | omega | (simp; omega))); have hfz3 : ∀ o, w3.frozen? ⟨w.heap.size, o, none⟩ = _ := (fun o => hb3.frozen (p := ⟨w.heap.size, o, none⟩) (by first | omega | (simp; omega))); have hcy3 : ∀ o, w3.cell? ⟨w2.heap.size, o, none⟩ = _ := (fun o => hb3.cell (p := ⟨w2.heap.size, o, none⟩) (by first | omega | simp)); clear hb3)
          exact bodyPost_ret (v := .tuple #[.agg #[.int .u16 0, .int .u8 0, .int .u8 0, .int .u8 0, .int .u8 0, .int .u8 0], .int .i64 9]) (by simp [results, Try.results49, go_sem, hcz, hw2z, hcz3, hcy3, World.cell?_alloc_some, World.cell?_setCell_far]) rfl ⟨hres.out, by
            repeat' (first
              | with_reducible exact Below.refl _ _
              | with_reducible exact HB2.out
              | with_reducible refine Below.drew ?_
              | with_reducible refine Below.setCell ?_ ?_ _
              | with_reducible refine Below.alloc ?_ ?_ _
              | with_reducible refine Below.trans ?_ (Below.mono HB3.out ?_)
              | omega
              | (simp <;> omega))⟩
    · have hMp : decide (0 < M) = true := by simp; omega
      have hres : Hid (Ending.returned (.tuple #[.agg #[.int .u16 0, .int .u8 0, .int .u8 0, .int .u8 0, .int .u8 0, .int .u8 0], .int .i64 9]) = .returned (.tuple #[tmV (rd l), .int .i64 (rdE l)])) := Lib.hid (by
        have hB : rdB l = false := by
          unfold rdB
          rw [decide_eq_false (fun h : l.length = 16 ∧ mxL (l.drop 7) 9 = 0 => hM0 (by rw [hM.out]; exact h.2))]
          rfl
        rw [(rd_no l hB).1, (rd_no l hB).2]
        rfl)
      clear hM0
      go_enter Try.func49, Try.ntmps49
      go_wp2_with (go_at_call 56; refine (HM.out _ HB0.out).mono ?_; rintro e w1 ⟨rfl, rfl⟩)
      exact bodyPost_ret (v := .tuple #[.agg #[.int .u16 0, .int .u8 0, .int .u8 0, .int .u8 0, .int .u8 0, .int .u8 0], .int .i64 9]) (by simp [results, Try.results49, go_sem]) rfl ⟨hres.out, by
        repeat' (first
          | with_reducible exact Below.refl _ _
          | with_reducible refine Below.drew ?_
          | with_reducible refine Below.setCell ?_ ?_ _
          | with_reducible refine Below.alloc ?_ ?_ _
          | omega
          | (simp <;> omega))⟩
  · have hres : Hid (Ending.returned (.tuple #[.agg #[.int .u16 0, .int .u8 0, .int .u8 0, .int .u8 0, .int .u8 0, .int .u8 0], .int .i64 9]) = .returned (.tuple #[tmV (rd l), .int .i64 (rdE l)])) := Lib.hid (by
      have hB : rdB l = false := by
        unfold rdB
        rw [decide_eq_false (fun h : l.length = 16 ∧ mxL (l.drop 7) 9 = 0 => hlen h.1)]
        rfl
      rw [(rd_no l hB).1, (rd_no l hB).2]
      rfl)
    clear hc HV
    have hd : ((l.length : Int) == 16) = false := by simp; omega
    have hd2 : ((l.length : Int) != 16) = true := by simp; omega
    clear hlen
    go_enter Try.func49, Try.ntmps49
    go_wp2
    exact bodyPost_ret (v := .tuple #[.agg #[.int .u16 0, .int .u8 0, .int .u8 0, .int .u8 0, .int .u8 0, .int .u8 0], .int .i64 9]) (by simp [results, Try.results49, go_sem]) rfl ⟨hres.out, by
      repeat' (first
        | with_reducible exact Below.refl _ _
        | with_reducible refine Below.drew ?_
        | with_reducible refine Below.setCell ?_ ?_ _
        | with_reducible refine Below.alloc ?_ ?_ _
        | omega
        | (simp <;> omega))⟩
end Go.Proofs.Ytilanncobbdlfaa
