/-
  The walk of the law StampReads.
-/
import Derived.Test.YtjjggnipicpjkaaStWorks
import Derived.Test.YtjjggnipicpjkaaStamp7
import Derived.Test.YtjjggnipicpjkaaStamp10
import Derived.Test.YtjjggnipicpjkaaSit
namespace Go.Proofs.Ytjjggnipicpjkaa
open Go Go.RowKit

set_option maxRecDepth 100000 in
set_option maxHeartbeats 8000000 in
theorem stampReads_walk (v : Value) (l : List UInt8) (t : Tm) (w : World) (hv : Byt w v l) (ht : t.Fit) :
    Calls Try.prog 3 #[v, tmV t] w fun e w' => e = .returned (.bool true) ∧ Below w.heap.size w w' := by
  obtain ⟨a, cap, rfl, h1, h2, _⟩ := hv.open
  unfold maxLen at h2
  have HW := Lib.hid (fun W => write_calls t W ht)
  have HRW := Lib.hid (fun W => refWrite_calls t W ht)
  obtain ⟨WL, hWL⟩ : ∃ L, Hid (L = wrL t) := ⟨_, Lib.hid rfl⟩
  have hWl : Hid (WL.length = 16) := Lib.hid (by rw [hWL.out]; exact wrL_length t)
  rw [← hWL.out] at HW HRW
  obtain ⟨t0, t1, t2, t3, t4, t5⟩ := t
  unfold tmV at HW HRW ⊢
  simp only at HW HRW ⊢
  have hb0 : Below w.heap.size w (w.alloc (.cells #[.int .u16 t0, .int .u8 t1, .int .u8 t2, .int .u8 t3, .int .u8 t4, .int .u8 t5] 25)) := (Below.refl _ _).alloc (Nat.le_refl _) _
  have S := Lib.hid (Sit.start1 _ _ l (hv.below hb0))
  have HB0 := Lib.hid hb0
  clear hb0
  by_cases hb : 4096 < l.length
  · clear hv
    go_enter Try.func3, Try.ntmps3
    go_wp2_with (go_at_call 13; refine (works_calls _).mono ?_; rintro e w1 ⟨rfl, hb1⟩; have HB1 := Lib.hid (HB0.out.trans (hb1.mono HB0.out.size)); clear hb1)
    go_ret
    exact ⟨rfl, HB1.out⟩
  · obtain ⟨⟨y0, y1, y2, y3, y4, y5⟩, hY⟩ : ∃ T, Hid (T = rd l) := ⟨_, Lib.hid rfl⟩
    obtain ⟨E, hE⟩ : ∃ E, Hid (E = rdE l) := ⟨_, Lib.hid rfl⟩
    have HR : Hid (∀ v W, Byt W v l → Calls Try.prog 15 #[v] W fun e w' => e = .returned (.tuple #[.agg #[.int .u16 y0, .int .u8 y1, .int .u8 y2, .int .u8 y3, .int .u8 y4, .int .u8 y5], .int .i64 E]) ∧ Below W.heap.size W w') := Lib.hid (fun v W h => by
      have := read_calls v l W h (by omega)
      rw [← hY.out, ← hE.out] at this
      exact this)
    have HRR : Hid (∀ v W, Byt W v l → Calls Try.prog 16 #[v] W fun e w' => e = .returned (.tuple #[.agg #[.int .u16 y0, .int .u8 y1, .int .u8 y2, .int .u8 y3, .int .u8 y4, .int .u8 y5], .int .i64 E]) ∧ Below W.heap.size W w') := Lib.hid (fun v W h => by
      have := refRead_calls v l W h
      rw [← hY.out, ← hE.out] at this
      exact this)
    have HW2 : Hid (∀ W, Calls Try.prog 17 #[.agg #[.int .u16 t0, .int .u8 t1, .int .u8 t2, .int .u8 t3, .int .u8 t4, .int .u8 t5]] W fun e w' => ∃ a c, e = .returned (.slice a 16 c) ∧ OwnB w' W.heap.size (.slice a 16 c) WL ∧ Below W.heap.size W w') := Lib.hid (fun W => (HW.out W).mono (by
      rintro e w' ⟨v', rfl, ho, hb⟩
      obtain ⟨a, c, e1, _, _⟩ := Own.shape ho
      rw [hWl.out] at e1
      subst e1
      exact ⟨a, c, rfl, ho, hb⟩))
    clear hv
    go_enter Try.func3, Try.ntmps3
    go_wp2_with (first
      | (go_at_call 14; refine (S.out.roomy _ l _ rfl S.out.r0 (by omega)).mono ?_; rintro e w1 ⟨g, cap1, rfl, hin, S1⟩; replace S := Lib.hid S1; have HIN := Lib.hid hin; clear S1 hin)
      | (go_at_call 15; refine (HR.out _ _ S.out.o0.byt).mono ?_; rintro e w2 ⟨rfl, hb⟩; replace S := Lib.hid ((S.out.call hb).alloc (.cells #[.int .u16 y0, .int .u8 y1, .int .u8 y2, .int .u8 y3, .int .u8 y4, .int .u8 y5] 25)); replace HIN := Lib.hid ((HIN.out.below hb).alloc (.cells #[.int .u16 y0, .int .u8 y1, .int .u8 y2, .int .u8 y3, .int .u8 y4, .int .u8 y5] 25)); clear hb)
      | (go_at_call 16; refine (HRR.out _ _ S.out.r0).mono ?_; rintro e w3 ⟨rfl, hb⟩; have hz30 : w.heap.size < w3.heap.size := (by have hq := S.out.bel.size; have hq2 := hb.size; simp at hq hq2; omega); have ct3 : ∀ o, w3.cell? ⟨w.heap.size, o, none⟩ = _ := (fun o => (S.out.call hb).bel.cell (p := ⟨w.heap.size, o, none⟩) (by simp)); replace S := Lib.hid ((S.out.call hb).alloc (.cells #[.int .u16 y0, .int .u8 y1, .int .u8 y2, .int .u8 y3, .int .u8 y4, .int .u8 y5] 25)); replace HIN := Lib.hid ((HIN.out.below hb).alloc (.cells #[.int .u16 y0, .int .u8 y1, .int .u8 y2, .int .u8 y3, .int .u8 y4, .int .u8 y5] 25)); have cx3 : ∀ o, w3.cell? ⟨w2.heap.size, o, none⟩ = _ := (fun o => hb.cell (p := ⟨w2.heap.size, o, none⟩) (by simp)); have hz3 : w2.heap.size < w3.heap.size := (by have hq := hb.size; simp at hq; omega); clear hb))
    go_wp2_with (go_at_call 17; refine (HW2.out _).mono ?_; rintro e w4 ⟨a4, c4, rfl, ho, hb⟩; have cx4 : ∀ o, w4.cell? ⟨w2.heap.size, o, none⟩ = _ := (fun o => hb.cell (p := ⟨w2.heap.size, o, none⟩) (by simp; omega)); have cy4 : ∀ o, w4.cell? ⟨w3.heap.size, o, none⟩ = _ := (fun o => hb.cell (p := ⟨w3.heap.size, o, none⟩) (by simp)); replace S := Lib.hid (S.out.born hb ho); have ct4 : ∀ o, w4.cell? ⟨w.heap.size, o, none⟩ = _ := (fun o => S.out.bel.cell (p := ⟨w.heap.size, o, none⟩) (by simp)); replace HIN := Lib.hid (HIN.out.below hb); clear hb ho)
    go_wp2_with (first
      | (go_at_call 19; refine (HRW.out _).mono ?_; rintro e w5 ⟨v5, rfl, ho, hb⟩; replace S := Lib.hid (S.out.born hb ho); have ct5 : ∀ o, w5.cell? ⟨w.heap.size, o, none⟩ = _ := (fun o => S.out.bel.cell (p := ⟨w.heap.size, o, none⟩) (by simp)); replace HIN := Lib.hid (HIN.out.below hb); clear hb ho)
      | (go_at_call 18; refine (eqB_true _ _ WL _ S.out.o1.byt S.out.o0.byt).mono ?_; rintro e w6 ⟨rfl, rfl⟩)
      | (go_at_call 20; refine (kept_calls _ g _ cap1 _ l l _ rfl HIN.out S.out.r0).mono ?_; rintro e w6 ⟨rfl, rfl⟩; rw [decide_eq_true rfl]))
    go_wp2_with fail
    refine (HW2.out _).mono ?_
    rintro e w6 ⟨a6, c6, rfl, ho, hb⟩
    replace S := Lib.hid (S.out.born hb ho)
    clear hb ho
    have HA := Lib.hid (S.out.apart [2, 0] #[.slice a4 16 c4, .slice a6 16 c6] 2 (by decide) (by simp) rfl rfl (by decide) (by decide) (len_all _ (by
      have := hWl.out
      intro x hx
      simp only [List.mem_cons, List.not_mem_nil, or_false] at hx
      rcases hx with rfl | rfl | rfl | rfl <;> omega)))
    go_wp2_with (first
      | (go_at_call 21; refine HA.out.mono ?_; rintro e w7 ⟨rfl, hb⟩; have HB7 := Lib.hid (HB0.out.trans (hb.mono HB0.out.size)); clear hb)
      | (go_at_call 13; refine (works_calls _).mono ?_; rintro e w8 ⟨rfl, hb⟩; have HB8 := Lib.hid (HB7.out.trans (hb.mono HB7.out.size)); clear hb))
    go_ret
    exact ⟨rfl, HB8.out⟩
end Go.Proofs.Ytjjggnipicpjkaa
