/-
  The contract of the document's own Write.
-/
import Derived.Test.YtemojckmnlgkdaaStamp6
namespace Go.Proofs.Ytemojckmnlgkdaa
open Go Go.RowKit

set_option maxRecDepth 100000 in
set_option maxHeartbeats 4000000 in
theorem refWrite_calls (t : Tm) (w : World) (ht : t.Fit) :
    Calls Try.prog 29 #[tmV t] w fun e w' => ∃ v', e = .returned v' ∧ OwnB w' w.heap.size v' (wrL t) ∧ Below w.heap.size w w' := by
  obtain ⟨y, mo, d, h, mi, s⟩ := t
  obtain ⟨hy, hmo, hd, hh, hmi, hs⟩ := ht
  simp only at hy hmo hd hh hmi hs
  obtain ⟨Y, rfl⟩ := Int.eq_ofNat_of_zero_le hy.1
  have HP : Hid (∀ W, Calls Try.prog 30 #[.slice none 0 0, .int .u64 (Y : Int), .int .i64 2] W fun e w' => ∃ v', e = .returned v' ∧ OwnB w' W.heap.size v' (lowN Y 2) ∧ Below W.heap.size W w') := Lib.hid (fun W => by
    have := refPut_calls (.slice none 0 0) [] Y 2 W (Byt.nil _) (by omega) (by decide)
    unfold putL at this
    rw [show sizedB 2 = true by decide, if_pos rfl] at this
    exact this)
  have HF := Lib.hid (fun W e => byt_five W mo d h mi s e hmo hd hh hmi hs)
  have hYw : IntKind.u64.wrap (Y : Int) = (Y : Int) := IntWalk.u64_in _ (by omega)
  obtain ⟨l7, hl7⟩ : ∃ l, Hid (l = lowN Y 2 ++ [u8 mo, u8 d, u8 h, u8 mi, u8 s]) := ⟨_, Lib.hid rfl⟩
  have hl7l : Hid (l7.length = 7) := Lib.hid (by rw [hl7.out]; simp [lowN_length])
  have hfin : Hid (wrL ⟨Y, mo, d, h, mi, s⟩ = l7 ++ List.replicate 9 0) := Lib.hid (by rw [hl7.out]; rfl)
  unfold tmV
  simp only
  go_enter Try.func29, Try.ntmps29
  have hB0 : Hid (Below w.heap.size w (w.alloc (.cells #[.int .u16 (Y : Int), .int .u8 mo, .int .u8 d, .int .u8 h, .int .u8 mi, .int .u8 s] 25))) := Lib.hid ((Below.refl _ _).alloc (Nat.le_refl _) _)
  go_wp2_with (first
    | (go_at_call 30; refine (HP.out _).mono ?_; rintro e w1 ⟨v1, rfl, ho, hb⟩; have ho1 := Lib.hid (ho.mono hB0.out.size); have hB1 := Lib.hid (hB0.out.trans (hb.mono hB0.out.size)); have hcc : ∀ o, w1.cell? ⟨w.heap.size, o, none⟩ = _ := (fun o => hb.cell (p := ⟨w.heap.size, o, none⟩) (by simp)); clear hb ho)
    | (at_builtin; refine wpList_append_byt rfl _ _ rfl w.heap.size _ (lowN Y 2) rfl (ho1.out.alloc _) _ [u8 mo, u8 d, u8 h, u8 mi, u8 s] rfl (HF.out _ _) ?c1 ?c2 ?_))
  case c1 => simp [lowN_length]
  case c2 => have := hB1.out.size; simp; omega
  intro v2 w2 ho2 hg2 _
  have hB2 := Lib.hid ((hB1.out.alloc hB1.out.size _).grown hg2 (by have := hB1.out.size; simp; omega) (fun b hbb => (Own.lt ho1.out b hbb).1))
  rw [← hl7.out] at ho2
  have HO2 := Lib.hid ho2
  clear hg2 ho2 ho1 hB1 hcc
  go_wp2
  go_loopw [3] (fun b wr => ∃ k : Nat, k ≤ 9 ∧ (∃ a c, b = .slice a (7 + k) c) ∧ Hid (OwnB wr w.heap.size b (l7 ++ List.replicate k 0)) ∧ Hid (Below w.heap.size w wr)) (fun b _ => match b with | .slice _ n _ => 16 - n | _ => 0)
  case atStart =>
    obtain ⟨a, c, e, _, _⟩ := Own.shape HO2.out
    rw [hl7l.out] at e
    exact ⟨0, by omega, ⟨a, c, e⟩, Lib.hid (by simpa using HO2.out), hB2⟩
  case round =>
    obtain ⟨k, hk, ⟨a, c, rfl⟩, ho, hB⟩ := hrel
    by_cases hlt : k < 9
    · go_wp2_with (at_builtin; refine wpList_append_byt rfl _ _ rfl w.heap.size _ (l7 ++ List.replicate k 0) rfl (ho.out.alloc _) _ [0] rfl (Byt.one _ 0 0 _ rfl) ?c3 ?c4 ?_)
      case c3 => have := hl7l.out; simp; omega
      case c4 => have := hB.out.size; simp; omega
      intro v3 w3 ho3 hg3 _
      have hB3 := Lib.hid ((hB.out.alloc hB.out.size _).grown hg3 (by have := hB.out.size; simp; omega) (fun b hbb => (Own.lt ho.out b hbb).1))
      have ho4 : Hid (OwnB w3 w.heap.size v3 (l7 ++ List.replicate (k + 1) 0)) := Lib.hid (by rw [List.replicate_succ', ← List.append_assoc]; first | exact ho3 | (rw [List.append_assoc]; exact ho3))
      clear ho3 hg3
      obtain ⟨a3, c3, e3, _, _⟩ := Own.shape ho4.out
      rw [show (l7 ++ List.replicate (k + 1) (0 : UInt8)).length = 7 + (k + 1) by have := hl7l.out; simp; omega] at e3
      subst e3
      go_wp2
      go_roundw
      case rel => exact ⟨k + 1, by omega, ⟨a3, c3, rfl⟩, ho4, hB3⟩
      case measure => simp; omega
    · obtain rfl : k = 9 := by omega
      go_wp2
      go_ret
      exact ⟨_, rfl, by rw [hfin.out]; exact ho.out, hB.out⟩
end Go.Proofs.Ytemojckmnlgkdaa
