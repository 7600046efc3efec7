/-
  The contracts of stamp's Write and of the document's own.
-/
import Derived.Test.YtemojckmnlgkdaaStamp3
import Derived.Test.YtemojckmnlgkdaaOct6
import Derived.Test.YtemojckmnlgkdaaOpLaw
namespace Go.Proofs.Ytemojckmnlgkdaa
open Go Go.RowKit

/-- A byte of a number. -/
def u8 (z : Int) : UInt8 := UInt8.ofNat z.toNat
theorem u8_eq (z : Int) (h : 0 ≤ z ∧ z ≤ 255) : z = ((u8 z).toNat : Int) := by unfold u8; rw [UInt8.toNat_ofNat']; omega

/-- The bytes of a moment. -/
def wrL (t : Tm) : List UInt8 := lowN t.y.toNat 2 ++ [u8 t.mo, u8 t.d, u8 t.h, u8 t.mi, u8 t.s] ++ List.replicate 9 0
theorem wrL_length (t : Tm) : (wrL t).length = 16 := by unfold wrL; simp [lowN_length]

theorem byt_five (w : World) (x0 x1 x2 x3 x4 : Int) (e : Nat) (h0 : 0 ≤ x0 ∧ x0 ≤ 255) (h1 : 0 ≤ x1 ∧ x1 ≤ 255) (h2 : 0 ≤ x2 ∧ x2 ≤ 255) (h3 : 0 ≤ x3 ∧ x3 ≤ 255) (h4 : 0 ≤ x4 ∧ x4 ≤ 255) :
    Byt (w.alloc (.cells #[.int .u8 x0, .int .u8 x1, .int .u8 x2, .int .u8 x3, .int .u8 x4] e)) (.slice (some ⟨w.heap.size, 0, none⟩) 5 5) [u8 x0, u8 x1, u8 x2, u8 x3, u8 x4] :=
  Byt.made w [u8 x0, u8 x1, u8 x2, u8 x3, u8 x4] _ e (0, 0) (by
    simp only [b8, List.map_cons, List.map_nil]
    rw [← u8_eq x0 h0, ← u8_eq x1 h1, ← u8_eq x2 h2, ← u8_eq x3 h3, ← u8_eq x4 h4]) (by unfold maxLen; simp)

set_option maxRecDepth 100000 in
set_option maxHeartbeats 4000000 in
theorem write_calls (t : Tm) (w : World) (ht : t.Fit) :
    Calls Try.prog 26 #[tmV t] w fun e w' => ∃ v', e = .returned v' ∧ OwnB w' w.heap.size v' (wrL t) ∧ Below w.heap.size w w' := by
  obtain ⟨y, mo, d, h, mi, s⟩ := t
  obtain ⟨hy, hmo, hd, hh, hmi, hs⟩ := ht
  simp only at hy hmo hd hh hmi hs
  obtain ⟨Y, rfl⟩ := Int.eq_ofNat_of_zero_le hy.1
  have HP : Hid (∀ W, Calls Try.prog 25 #[.slice none 0 0, .int .u64 (Y : Int), .int .i64 2] W fun e w' => ∃ v', e = .returned v' ∧ OwnB w' W.heap.size v' (lowN Y 2) ∧ Below W.heap.size W w') := Lib.hid (fun W => by
    have := put_calls (.slice none 0 0) [] Y 2 W (Byt.nil _) (by omega) (by decide)
    unfold putL at this
    rw [show sizedB 2 = true by decide, if_pos rfl] at this
    exact this)
  have HF := Lib.hid (fun W e => byt_five W mo d h mi s e hmo hd hh hmi hs)
  have hYw : IntKind.u64.wrap (Y : Int) = (Y : Int) := IntWalk.u64_in _ (by omega)
  have HF2 : Hid (∀ (W : World) (e : Nat), Byt (W.alloc (.cells #[.int .u8 mo, .int .u8 d, .int .u8 h, .int .u8 mi, .int .u8 s] e)).drew (.slice (some ⟨W.heap.size, 0, none⟩) 5 5) [u8 mo, u8 d, u8 h, u8 mi, u8 s]) := Lib.hid (fun W e => (HF.out W e).below (Below.refl _ _).drew)
  unfold tmV
  simp only
  go_enter Try.func26, Try.ntmps26
  go_wp2
  go_region_held3 (fun w' => w'.cell? ⟨w.heap.size, 0, none⟩ = some (.int .u16 (Y : Int)) ∧ w'.cell? ⟨w.heap.size, 1, none⟩ = some (.int .u8 mo) ∧ w'.cell? ⟨w.heap.size, 2, none⟩ = some (.int .u8 d) ∧ w'.cell? ⟨w.heap.size, 3, none⟩ = some (.int .u8 h) ∧ w'.cell? ⟨w.heap.size, 4, none⟩ = some (.int .u8 mi) ∧ w'.cell? ⟨w.heap.size, 5, none⟩ = some (.int .u8 s) ∧ w.heap.size < w'.heap.size) (first | (refine ⟨?_, ?_, ?_, ?_, ?_, ?_, ?_⟩ <;> (first | omega | (simp <;> omega) | go_keep)) | omega | (simp <;> omega) | go_keep)
    (first
      | (go_at_call 25; refine (HP.out _).mono ?_; rintro e w1 ⟨v1, rfl, ho, hb⟩; have hz : w.heap.size < w1.heap.size := (by have hq := hb.size; first | omega | (simp at hq; omega)); (try (have hfb := Byt.below (HF2.out _ _) hb; simp at hfb)); obtain ⟨hgc, hgf⟩ := bcell hb; have hcc : ∀ o, w1.cell? ⟨w.heap.size, o, none⟩ = _ := (fun o => hb.cell (p := ⟨w.heap.size, o, none⟩) (by first | omega | (simp <;> omega))))
      | (refine wanted_if2 rfl ?_; refine op2_append_byt _ _ rfl w.heap.size _ (lowN Y 2) rfl ((ho.mono (by first | omega | (simp <;> omega))).alloc _) _ [u8 mo, u8 d, u8 h, u8 mi, u8 s] rfl (HF.out _ _) (by simp [lowN_length]) (by first | omega | (simp <;> omega)) ?_; intro v2 w2 ho2 hg2 _ _; have hw2 : w.heap.size < w2.heap.size := (by have hq := hg2.size; first | omega | (simp at hq; omega)); have hcw : ∀ o, w2.cell? ⟨w.heap.size, o, none⟩ = _ := (fun o => World.cell?_of_block (hg2.block w.heap.size (by first | omega | (simp <;> omega)) (fun e => by have hq := (Own.lt ho w.heap.size e.symm).1; first | omega | (simp at hq; done) | (simp at hq; omega)))))
      | (refine wanted_if2 rfl ?_; refine op2_append_byt _ _ rfl w.heap.size _ (lowN Y 2) rfl (ho.mono (by first | omega | (simp <;> omega))) _ [u8 mo, u8 d, u8 h, u8 mi, u8 s] rfl hfb (by simp [lowN_length]) (by first | omega | (simp <;> omega)) ?_; intro v2 w2 ho2 hg2 _ _; have hw2 : w.heap.size < w2.heap.size := (by have hq := hg2.size; first | omega | (simp at hq; omega)); have hcw : ∀ o, w2.cell? ⟨w.heap.size, o, none⟩ = _ := (fun o => World.cell?_of_block (hg2.block w.heap.size (by first | omega | (simp <;> omega)) (fun e => by have hq := (Own.lt ho w.heap.size e.symm).1; first | omega | (simp at hq; done) | (simp at hq; omega))))))
  all_goals
    have hB2 : Hid (Below w.heap.size w w2) := Lib.hid (by
      refine Below.grown ?_ hg2 (by first | omega | (simp <;> omega)) (fun b hbb => by have hq := (Own.lt ho b hbb).1; first | omega | (simp at hq; omega))
      repeat' (first
        | with_reducible exact Below.refl _ _
        | with_reducible refine Below.drew ?_
        | with_reducible refine Below.alloc ?_ ?_ _
        | with_reducible refine Below.trans ?_ (Below.mono (by assumption) ?_)
        | omega
        | (simp <;> omega)))
    have ho3 := ho2
    clear hg2
    go_wp2_with (at_builtin; refine wpList_append_zeros rfl _ _ rfl w.heap.size _ (lowN Y 2 ++ [u8 mo, u8 d, u8 h, u8 mi, u8 s]) rfl ho3 9 rfl (by simp [lowN_length]) (by have := hB2.out.size; omega) ?_; intro v4 w4 ho4 hg4)
    go_ret
    exact ⟨v4, rfl, ho4, hB2.out.grown hg4 hB2.out.size (fun b hbb => (Own.lt ho3 b hbb).1)⟩
end Go.Proofs.Ytemojckmnlgkdaa
