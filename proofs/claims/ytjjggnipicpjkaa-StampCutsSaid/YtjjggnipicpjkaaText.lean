/-
  The contracts of the statements' own two and text: a moment's digits, in new memory.
-/
import Derived.Test.YtjjggnipicpjkaaTextPlain
namespace Go.Proofs.Ytjjggnipicpjkaa
open Go Go.RowKit

theorem own_row (w : World) (l : List UInt8) (cs : Array Value) (n : Nat) (h : cs.toList = l.map b8) (hn : n = l.length) (h0 : 0 < n) (hl : n ≤ 1000000) : OwnB (w.alloc (.cells cs 5)) w.heap.size (.slice (some ⟨w.heap.size, 0, none⟩) n n) l := by
  subst hn
  have hs : cs.size = l.length * 1 := by rw [← Array.length_toList, h]; simp
  have := Own.made w w.heap.size 5 1 cs l.length l.length (Nat.le_refl _) hs h0 (Nat.le_refl _) (by unfold maxLen; omega)
  rw [h, List.take_of_length_le (by simp)] at this
  exact this

set_option maxHeartbeats 400000 in
theorem two_calls (n : Int) (w : World) (hn : 0 ≤ n ∧ n ≤ 99) :
    Calls Try.prog 39 #[.int .i64 n] w fun e w' => ∃ v', e = .returned v' ∧ OwnB w' w.heap.size v' (dg n) ∧ Below w.heap.size w w' := by
  have h1 : IntKind.u8.wrap (48 + n / 10) = 48 + n / 10 := by rw [IntKind.wrap_u8]; omega
  have h2 : IntKind.u8.wrap (48 + n % 10) = 48 + n % 10 := by rw [IntKind.wrap_u8]; omega
  have ho : Hid (OwnB (w.alloc (.cells #[.int .u8 (48 + n / 10), .int .u8 (48 + n % 10)] 5)) w.heap.size (.slice (some ⟨w.heap.size, 0, none⟩) 2 2) (dg n)) := Lib.hid (own_row w (dg n) _ 2 (by
    simp only [dg, b8, List.map_cons, List.map_nil]
    rw [u8_nat _ (by omega), u8_nat _ (by omega)]) rfl (by omega) (by omega))
  go_enter Try.func39, Try.ntmps39
  go_wp2
  go_ret
  exact ⟨_, rfl, ho.out, (Below.refl _ _).alloc (Nat.le_refl _) _⟩

/-- A moment's parts, as its digits are told. -/
def ptX (t : Tm) (i : Nat) : Int := match i with | 0 => t.y / 100 | 1 => t.y % 100 | 2 => t.mo | 3 => t.d | 4 => t.h | 5 => t.mi | _ => t.s
theorem take_tx (t : Tm) (k : Nat) (hk : k < 7) : (txL t).take (2 * (k + 1)) = (txL t).take (2 * k) ++ dg (ptX t k) := by
  have : k = 0 ∨ k = 1 ∨ k = 2 ∨ k = 3 ∨ k = 4 ∨ k = 5 ∨ k = 6 := by omega
  rcases this with rfl | rfl | rfl | rfl | rfl | rfl | rfl <;> rfl
theorem ptX_bd (t : Tm) (ht : t.Fit) (h : rightB t = true) (k : Nat) : 0 ≤ ptX t k ∧ ptX t k ≤ 99 := by
  have hb := right_bd h
  obtain ⟨f1, f2, f3, f4, f5, f6⟩ := ht
  match k with
  | 0 | 1 | 2 | 3 | 4 | 5 => simp only [ptX]; omega
  | k + 6 => simp only [ptX]; omega

set_option maxRecDepth 100000 in
set_option maxHeartbeats 2000000 in
theorem text_calls (t : Tm) (w : World) (ht : t.Fit) (hr : rightB t = true) :
    Calls Try.prog 24 #[tmV t] w fun e w' => ∃ v', e = .returned v' ∧ OwnB w' w.heap.size v' (txL t) ∧ Below w.heap.size w w' := by
  have HP := Lib.hid (fun k => ptX_bd t ht hr k)
  have HTK := Lib.hid (fun k hk => take_tx t k hk)
  have h0 : 0 ≤ t.y ∧ t.y ≤ 65535 := ht.y
  have h1 : 0 ≤ t.mo ∧ t.mo ≤ 255 := ht.mo
  have h2 : 0 ≤ t.d ∧ t.d ≤ 255 := ht.d
  have h3 : 0 ≤ t.h ∧ t.h ≤ 255 := ht.h
  have h4 : 0 ≤ t.mi ∧ t.mi ≤ 255 := ht.mi
  have h5 : 0 ≤ t.s ∧ t.s ≤ 255 := ht.s
  have HL := Lib.hid (show (txL t).length = 15 from rfl)
  have HE := Lib.hid (show txL t = (txL t).take (2 * 7) ++ [90] from rfl)
  obtain ⟨X, hX⟩ : ∃ X, Hid (X = txL t) := ⟨_, Lib.hid rfl⟩
  rw [← hX.out] at HTK HL HE ⊢
  obtain ⟨p, hp⟩ : ∃ p : Nat → Int, Hid (p = ptX t) := ⟨_, Lib.hid rfl⟩
  rw [← hp.out] at HTK HP
  unfold tmV
  go_enter Try.func24, Try.ntmps24
  go_wp2
  go_loopw [4, 5] (fun b i wr => ∃ k : Nat, k ≤ 7 ∧ i = .int .i64 k ∧ OwnB wr (w.heap.size + 2) b (X.take (2 * k)) ∧ Below w.heap.size w wr ∧ w.heap.size + 2 ≤ wr.heap.size ∧ Hid (∀ j, j < 7 → wr.cell? ⟨w.heap.size + 1, j, none⟩ = some (.int .i64 (p j)))) (fun _ i _ => 7 - (intOf i).toNat)
  case atStart =>
    refine ⟨0, by omega, rfl, OwnB.empty _ _ _, ((Below.refl _ _).alloc (Nat.le_refl _) _).alloc (by simp) _, by simp, Lib.hid (fun j hj => ?_)⟩
    rw [hp.out]
    have : j = 0 ∨ j = 1 ∨ j = 2 ∨ j = 3 ∨ j = 4 ∨ j = 5 ∨ j = 6 := by omega
    rcases this with rfl | rfl | rfl | rfl | rfl | rfl | rfl <;> simp [go_sem, ptX]
  case round =>
    obtain ⟨k, hk, rfl, hown, hb, hz, HC⟩ := hrel
    by_cases hlt : k < 7
    · obtain ⟨z, hz1⟩ : ∃ z, Hid (z = p k) := ⟨_, Lib.hid rfl⟩
      have hzb : 0 ≤ z ∧ z ≤ 99 := by rw [hz1.out]; exact HP.out k
      have hck := HC.out k hlt
      rw [← hz1.out] at hck
      obtain ⟨m, hm, hml⟩ : ∃ m, Hid (m = X.take (2 * k)) ∧ m.length ≤ 14 := ⟨_, Lib.hid rfl, by rw [List.length_take]; omega⟩
      rw [← hm.out] at hown
      have hnew : Hid (X.take (2 * (k + 1)) = m ++ dg z) := Lib.hid (by rw [HTK.out k hlt, hm.out, hz1.out])
      have HO := Lib.hid hown
      have HB := Lib.hid hb
      clear hown hb
      go_wp2_with (first
        | (go_at_call 39; refine (two_calls _ _ hzb).mono ?_; rintro e w1 ⟨v1, rfl, ho1, hb1⟩; have HO1 := Lib.hid ho1; have HB1 := Lib.hid hb1; have hz2 : wr.heap.size ≤ w1.heap.size := hb1.size; clear ho1 hb1)
        | (at_builtin; refine wpList_append_byt rfl _ _ rfl (w.heap.size + 2) _ m rfl (HO.out.below HB1.out) _ (dg z) rfl HO1.out.byt (by simp only [dg, List.length_cons, List.length_nil]; omega) (by omega) ?_; intro v2 w2 ho2 hg2 _))
      have hb2 : Below w.heap.size w w2 := (HB.out.trans (HB1.out.mono (by omega))).grown hg2 (by omega) (fun j hj => by have := (Own.lt (HO.out.below HB1.out) j hj).1; omega)
      have HCn : Hid (∀ j, j < 7 → w2.cell? ⟨w.heap.size + 1, j, none⟩ = some (.int .i64 (p j))) := Lib.hid (fun j hj => World.grownBy.cell hg2 ((HB1.out.cell (p := ⟨w.heap.size + 1, j, none⟩) (by show w.heap.size + 1 < _; omega)).trans (HC.out j hj)) (by
        intro e
        have := (Own.lt (HO.out.below HB1.out) (w.heap.size + 1) e.symm).1
        first | omega | (simp at this; done) | (simp at this; omega)))
      have hz3 : w.heap.size + 2 ≤ w2.heap.size := by have := hg2.size; omega
      have HO2 := Lib.hid ho2
      have HB2 := Lib.hid hb2
      clear ho2 hb2 hg2 hck
      go_wp2
      go_roundw
      case rel => exact ⟨k + 1, by omega, by go_num, by rw [hnew.out]; exact HO2.out, HB2.out, hz3, HCn⟩
      case measure => simp [intOf]; omega
    · obtain rfl : k = 7 := by omega
      have HO := Lib.hid hown
      have HB := Lib.hid hb
      clear hown hb
      go_wp2_with (at_builtin; refine wpList_append_byt rfl _ _ rfl (w.heap.size + 2) _ (X.take (2 * 7)) rfl (HO.out.alloc _) _ [90] rfl (Byt.one _ _ 90 _ rfl) (by rw [List.length_take, HL.out]; simp) (by simp; omega) ?_; intro v2 w2 ho2 hg2 _)
      have hb2 : Below w.heap.size w w2 := (HB.out.alloc HB.out.size _).grown hg2 (by have := HB.out.size; simp; omega) (fun j hj => by have := (Own.lt HO.out j hj).1; omega)
      rw [← HE.out] at ho2
      go_ret
      exact ⟨v2, rfl, ho2.mono (by omega), hb2⟩
end Go.Proofs.Ytjjggnipicpjkaa
