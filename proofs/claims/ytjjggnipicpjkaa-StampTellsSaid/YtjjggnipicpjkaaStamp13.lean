/-
  The contracts of stamp's Utc and General.
-/
import Derived.Test.YtjjggnipicpjkaaStamp12
namespace Go.Proofs.Ytjjggnipicpjkaa
open Go Go.RowKit

set_option maxHeartbeats 4000000 in
theorem utc_calls (v : Value) (l : List UInt8) (w : World) (hv : Byt w v l) (hl : l.length ≤ 1000000000000) :
    Calls Try.prog 25 #[v] w fun e w' => e = .returned (.tuple #[tmV (told 2 utcY l), .bool (toldB 2 utcY l)]) ∧ Below w.heap.size w w' := by
  have hB0 : Hid (Below w.heap.size w (w.alloc (.cells #[.int .u16 0, .int .u8 0, .int .u8 0, .int .u8 0, .int .u8 0, .int .u8 0] 25))) := Lib.hid ((Below.refl _ _).alloc (Nat.le_refl _) _)
  have HT := Lib.hid (told2_calls v l _ (hv.below hB0.out) hl)
  obtain ⟨⟨y, mo, d, h, mi, s⟩, hT⟩ : ∃ T, Hid (T = told 2 utcY l) := ⟨_, Lib.hid rfl⟩
  obtain ⟨B, hB⟩ : ∃ B, Hid (B = toldB 2 utcY l) := ⟨_, Lib.hid rfl⟩
  rw [← hT.out, ← hB.out] at HT ⊢
  unfold tmV at HT ⊢
  simp only at HT ⊢
  clear hv hl
  go_enter Try.func25, Try.ntmps25
  go_wp2_with (go_at_call 40; refine (HT.out).mono ?_; rintro e w1 ⟨rfl, hb⟩; have HB1 := Lib.hid (hB0.out.trans (hb.mono hB0.out.size)); have hcc : ∀ o, w1.cell? ⟨w.heap.size, o, none⟩ = _ := (fun o => hb.cell (p := ⟨w.heap.size, o, none⟩) (by simp)); have hff : ∀ o, w1.frozen? ⟨w.heap.size, o, none⟩ = _ := (fun o => hb.frozen (p := ⟨w.heap.size, o, none⟩) (by simp)); clear hb)
  exact bodyPost_ret (v := .tuple #[.agg #[.int .u16 y, .int .u8 mo, .int .u8 d, .int .u8 h, .int .u8 mi, .int .u8 s], .bool B]) (by simp [results, Try.results25, go_sem, hcc]) rfl ⟨rfl, (HB1.out.setCell (p := ⟨w.heap.size, 0, none⟩) (by simp) _ |>.setCell (p := ⟨w.heap.size, 1, none⟩) (by simp) _ |>.setCell (p := ⟨w.heap.size, 2, none⟩) (by simp) _ |>.setCell (p := ⟨w.heap.size, 3, none⟩) (by simp) _ |>.setCell (p := ⟨w.heap.size, 4, none⟩) (by simp) _ |>.setCell (p := ⟨w.heap.size, 5, none⟩) (by simp) _)⟩

set_option maxHeartbeats 4000000 in
theorem general_calls (v : Value) (l : List UInt8) (w : World) (hv : Byt w v l) (hl : l.length ≤ 1000000000000) :
    Calls Try.prog 27 #[v] w fun e w' => e = .returned (.tuple #[tmV (told 4 genY l), .bool (toldB 4 genY l)]) ∧ Below w.heap.size w w' := by
  have hB0 : Hid (Below w.heap.size w (w.alloc (.cells #[.int .u16 0, .int .u8 0, .int .u8 0, .int .u8 0, .int .u8 0, .int .u8 0] 25))) := Lib.hid ((Below.refl _ _).alloc (Nat.le_refl _) _)
  have HT := Lib.hid (told4_calls v l _ (hv.below hB0.out) hl)
  obtain ⟨⟨y, mo, d, h, mi, s⟩, hT⟩ : ∃ T, Hid (T = told 4 genY l) := ⟨_, Lib.hid rfl⟩
  obtain ⟨B, hB⟩ : ∃ B, Hid (B = toldB 4 genY l) := ⟨_, Lib.hid rfl⟩
  rw [← hT.out, ← hB.out] at HT ⊢
  unfold tmV at HT ⊢
  simp only at HT ⊢
  clear hv hl
  go_enter Try.func27, Try.ntmps27
  go_wp2_with (go_at_call 40; refine (HT.out).mono ?_; rintro e w1 ⟨rfl, hb⟩; have HB1 := Lib.hid (hB0.out.trans (hb.mono hB0.out.size)); have hcc : ∀ o, w1.cell? ⟨w.heap.size, o, none⟩ = _ := (fun o => hb.cell (p := ⟨w.heap.size, o, none⟩) (by simp)); have hff : ∀ o, w1.frozen? ⟨w.heap.size, o, none⟩ = _ := (fun o => hb.frozen (p := ⟨w.heap.size, o, none⟩) (by simp)); clear hb)
  exact bodyPost_ret (v := .tuple #[.agg #[.int .u16 y, .int .u8 mo, .int .u8 d, .int .u8 h, .int .u8 mi, .int .u8 s], .bool B]) (by simp [results, Try.results27, go_sem, hcc]) rfl ⟨rfl, (HB1.out.setCell (p := ⟨w.heap.size, 0, none⟩) (by simp) _ |>.setCell (p := ⟨w.heap.size, 1, none⟩) (by simp) _ |>.setCell (p := ⟨w.heap.size, 2, none⟩) (by simp) _ |>.setCell (p := ⟨w.heap.size, 3, none⟩) (by simp) _ |>.setCell (p := ⟨w.heap.size, 4, none⟩) (by simp) _ |>.setCell (p := ⟨w.heap.size, 5, none⟩) (by simp) _)⟩

end Go.Proofs.Ytjjggnipicpjkaa
