/-
  The walk of the law StampCuts.
-/
import Derived.Test.YtjjggnipicpjkaaStWorks
import Derived.Test.YtjjggnipicpjkaaRow
import Derived.Test.YtjjggnipicpjkaaTextHead
import Derived.OpenShut
namespace Go.Proofs.Ytjjggnipicpjkaa
open Go Go.RowKit

theorem gen_none (v : Value) (l : List UInt8) (W : World) (h : Byt W v l) (hl : l.length ≤ 100) (hn : l.length ≠ 15) :
    Calls Try.prog 27 #[v] W fun e w' => e = .returned (.tuple #[.agg #[.int .u16 0, .int .u8 0, .int .u8 0, .int .u8 0, .int .u8 0, .int .u8 0], .bool false]) ∧ Below W.heap.size W w' := by
  have := general_calls v l W h (by omega)
  have hB := told_len 4 genY l hn
  unfold told at this
  rw [hB, if_neg (by decide)] at this
  exact this
theorem utc_none (v : Value) (l : List UInt8) (W : World) (h : Byt W v l) (hl : l.length ≤ 100) (hn : l.length ≠ 13) :
    Calls Try.prog 25 #[v] W fun e w' => e = .returned (.tuple #[.agg #[.int .u16 0, .int .u8 0, .int .u8 0, .int .u8 0, .int .u8 0, .int .u8 0], .bool false]) ∧ Below W.heap.size W w' := by
  have := utc_calls v l W h (by omega)
  have hB := told_len 2 utcY l hn
  unfold told at this
  rw [hB, if_neg (by decide)] at this
  exact this
theorem gen_any2 (v : Value) (l : List UInt8) (W : World) (h : Byt W v l) (hl : l.length ≤ 100) (E : Bool) (hE : toldB 4 genY l = E) :
    Calls Try.prog 27 #[v] W fun e w' => ∃ q : Tm, e = .returned (.tuple #[.agg #[.int .u16 q.y, .int .u8 q.mo, .int .u8 q.d, .int .u8 q.h, .int .u8 q.mi, .int .u8 q.s], .bool E]) ∧ Below W.heap.size W w' := by
  have := general_calls v l W h (by omega)
  rw [hE] at this
  exact this.mono fun e w' ⟨he, hb⟩ => ⟨told 4 genY l, he, hb⟩

/-- The ways through the last tests: whether the byte is what may stand there, and what is told. -/
def CutWays (x : Int) (k : Nat) (E : Bool) : Prop :=
  ((((k : Int) == 14) = false) ∧ ((decide (48 ≤ x) = false ∧ E = false) ∨ (decide (48 ≤ x) = true ∧ decide (x ≤ 57) = false ∧ E = false) ∨ (decide (48 ≤ x) = true ∧ decide (x ≤ 57) = true))) ∨
  ((((k : Int) == 14) = true) ∧ ((decide (48 ≤ x) = false ∧ (x == 90) = false ∧ E = false) ∨ (decide (48 ≤ x) = true ∧ decide (x ≤ 57) = false ∧ (x == 90) = false ∧ E = false) ∨ (decide (48 ≤ x) = true ∧ decide (x ≤ 57) = false ∧ (x == 90) = true) ∨ (decide (48 ≤ x) = true ∧ decide (x ≤ 57) = true ∧ (x == 90) = false ∧ E = false)))
theorem cut_ways (t : Tm) (x : Int) (c : UInt8) (k : Nat) (hx : x = (c.toNat : Int)) (hk : k < 15) : CutWays x k (toldB 4 genY ((txL t).set k c)) := by
  have hs := tx_set t k c hk
  unfold CutWays
  subst hx
  simp only [decide_eq_true_iff, decide_eq_false_iff_not, beq_iff_eq, beq_eq_false_iff_ne]
  by_cases h14 : k = 14
  · rw [if_pos h14] at hs
    right
    refine ⟨by omega, ?_⟩
    by_cases h90 : c.toNat = 90
    · exact .inr (.inr (.inl ⟨by omega, by omega, by omega⟩))
    · have hE := hs h90
      rw [hE]
      by_cases h1 : 48 ≤ c.toNat
      · by_cases h2 : c.toNat ≤ 57
        · exact .inr (.inr (.inr ⟨by omega, by omega, by omega, rfl⟩))
        · exact .inr (.inl ⟨by omega, by omega, by omega, rfl⟩)
      · exact .inl ⟨by omega, by omega, rfl⟩
  · rw [if_neg h14] at hs
    left
    refine ⟨by omega, ?_⟩
    by_cases h1 : 48 ≤ c.toNat
    · by_cases h2 : c.toNat ≤ 57
      · exact .inr (.inr ⟨by omega, by omega⟩)
      · exact .inr (.inl ⟨by omega, by omega, hs (by omega)⟩)
    · exact .inl ⟨by omega, hs (by omega)⟩

set_option maxRecDepth 100000 in
set_option maxHeartbeats 4000000 in
theorem stampCuts_none (t : Tm) (p x : Int) (w : World) (ht : t.Fit) (hr : rightB t = false) :
    Calls Try.prog 12 #[tmV t, .int .i64 p, .int .u8 x] w fun e w' => e = .returned (.bool true) ∧ Below w.heap.size w w' := by
  have hB0 : Hid (Below w.heap.size w (w.alloc (.cells #[.int .u16 t.y, .int .u8 t.mo, .int .u8 t.d, .int .u8 t.h, .int .u8 t.mi, .int .u8 t.s] 25))) := Lib.hid ((Below.refl _ _).alloc (Nat.le_refl _) _)
  have HR := Lib.hid (fun W => right_any t _ hr ht W)
  clear hr ht
  unfold tmV
  go_enter Try.func12, Try.ntmps12
  go_wp2_with (first
    | (go_at_call 23; refine (HR.out _).mono ?_; rintro e w1 ⟨rfl, hb⟩; have HB1 := Lib.hid (hB0.out.trans (hb.mono hB0.out.size)); clear hb)
    | (go_at_call 13; refine (works_calls _).mono ?_; rintro e w9 ⟨rfl, hb⟩; have HB9 := Lib.hid (HB1.out.trans (hb.mono HB1.out.size)); clear hb))
  go_ret
  exact ⟨rfl, HB9.out⟩

set_option maxRecDepth 100000 in
set_option maxHeartbeats 8000000 in
theorem stampCuts_yes (t : Tm) (p x : Int) (w : World) (ht : t.Fit) (hr : rightB t = true) (hp : (Lit.int .i64 p).wf = true) (hx : (Lit.int .u8 x).wf = true) :
    Calls Try.prog 12 #[tmV t, .int .i64 p, .int .u8 x] w fun e w' => e = .returned (.bool true) ∧ Below w.heap.size w w' := by
  have hx1 := bounds_u8 hx
  clear hx hp
  obtain ⟨X, hX⟩ : ∃ X, Hid (X = txL t) := ⟨_, Lib.hid rfl⟩
  have HXL : Hid (X.length = 15) := Lib.hid (by rw [hX.out]; rfl)
  have HR := Lib.hid (fun W => right_any t _ hr ht W)
  have HX := Lib.hid (fun W => text_head t X hX.out ht hr W)
  obtain ⟨c, hxc⟩ : ∃ c : UInt8, Hid (x = (c.toNat : Int)) := ⟨UInt8.ofNat x.toNat, Lib.hid (by rw [UInt8.toNat_ofNat']; omega)⟩
  obtain ⟨z, hz⟩ : ∃ z, Hid (z = p.tmod 15) := ⟨_, Lib.hid rfl⟩
  have hzb : -15 < z ∧ z < 15 := by
    rw [hz.out]
    have h1 := Int.tmod_lt_of_pos p (b := 15) (by decide)
    have h2 := Int.lt_tmod_of_pos p (b := 15) (by decide)
    omega
  have hzt : p.tmod 15 = z := hz.out.symm
  obtain ⟨k, hk⟩ : ∃ k : Nat, Hid ((k : Int) = if z < 0 then z + 15 else z) := ⟨(if z < 0 then z + 15 else z).toNat, Lib.hid (by split <;> omega)⟩
  have hk15 : k < 15 := by have := hk.out; split at this <;> omega
  obtain ⟨E, hE⟩ : ∃ E, Hid (E = toldB 4 genY ((txL t).set k c)) := ⟨_, Lib.hid rfl⟩
  have hways : CutWays x k E := by rw [hE.out]; exact cut_ways t x c k hxc.out hk15
  have HG : Hid (∀ v W, Byt W v (X.set k c) → Calls Try.prog 27 #[v] W fun e w' => ∃ q : Tm, e = .returned (.tuple #[.agg #[.int .u16 q.y, .int .u8 q.mo, .int .u8 q.d, .int .u8 q.h, .int .u8 q.mi, .int .u8 q.s], .bool E]) ∧ Below W.heap.size W w') := Lib.hid (fun v W h => gen_any2 v _ W h (by rw [List.length_set, HXL.out]; decide) E (by rw [hE.out, hX.out]))
  have hzw : (decide (z < 0) = true ∧ z + 15 = (k : Int)) ∨ (decide (z < 0) = false ∧ z = (k : Int)) := by
    have := hk.out
    split at this
    · exact .inl ⟨by simpa using ‹z < 0›, by omega⟩
    · exact .inr ⟨by simpa using ‹¬ z < 0›, by omega⟩
  have hB0 : Hid (Below w.heap.size w (w.alloc (.cells #[.int .u16 t.y, .int .u8 t.mo, .int .u8 t.d, .int .u8 t.h, .int .u8 t.mi, .int .u8 t.s] 25))) := Lib.hid ((Below.refl _ _).alloc (Nat.le_refl _) _)
  have ct0 := Lib.hid (RowAt.new w #[.int .u16 t.y, .int .u8 t.mo, .int .u8 t.d, .int .u8 t.h, .int .u8 t.mi, .int .u8 t.s] 25 w.heap.size rfl)
  clear hr ht hX hE hz
  unfold CutWays at hways
  unfold tmV
  have HK := Lib.hid hk15
  clear hk
  rcases hzw with ⟨z1, z2⟩ | ⟨z1, rfl⟩
  all_goals
    go_enter Try.func12, Try.ntmps12
    go_wp2_with (first
      | (go_at_call 23; refine (HR.out _).mono ?_; rintro e w1 ⟨rfl, hb⟩; have HB1 := Lib.hid (hB0.out.trans (hb.mono hB0.out.size)); have ct1 := Lib.hid (ct0.out.below hb); have k1 := ct1.out.cell; have k10 := k1 0 (.int .u16 t.y) rfl; have k11 := k1 1 (.int .u8 t.mo) rfl; have k12 := k1 2 (.int .u8 t.d) rfl; have k13 := k1 3 (.int .u8 t.h) rfl; have k14 := k1 4 (.int .u8 t.mi) rfl; have k15 := k1 5 (.int .u8 t.s) rfl; clear hb ct0 k1)
      | (go_at_call 24; refine (HX.out _).mono ?_; rintro e w2 ⟨g, cap, rfl, hg1, hcp, hcm, ho, hb⟩; have HB2 := Lib.hid (HB1.out.trans (hb.mono HB1.out.size)); have hgw : w.heap.size ≤ g := Nat.le_trans HB1.out.size hg1; have HO2 := Lib.hid ho; clear hb ct1 k10 k11 k12 k13 k14 k15 ho)
      | fail)
    refine (gen_none _ (X.take k) _ (HO2.out.byt.take k (by rw [HXL.out]; omega)) (by rw [List.length_take, HXL.out]; omega) (by rw [List.length_take, HXL.out]; omega)).mono ?_
    rintro e w3 ⟨rfl, hb⟩
    have HB3 := Lib.hid ((HB2.out.trans (hb.mono HB2.out.size)).alloc (by have h1 := HB2.out.size; have h2 := hb.size; omega) (.cells #[.int .u16 0, .int .u8 0, .int .u8 0, .int .u8 0, .int .u8 0, .int .u8 0] 25))
    have HO3 := Lib.hid ((HO2.out.below hb).alloc (.cells #[.int .u16 0, .int .u8 0, .int .u8 0, .int .u8 0, .int .u8 0, .int .u8 0] 25))
    clear hb
    go_wp2_with (first
      | (go_at_call 31; refine (copyBytes_calls _ X _ HO3.out.byt (by rw [HXL.out]; decide)).mono ?_; rintro e w4 ⟨v4, rfl, ho, hb⟩; have HB4 := Lib.hid (HB3.out.trans (hb.mono HB3.out.size)); have HO4 := Lib.hid (HO3.out.below hb); have HV4 := Lib.hid ho; have HS4 := Lib.hid hb.size; have HG4 := Lib.hid (Own.lt HO3.out g (ownB_some (by omega))).2; clear hb ho)
      | (at_builtin; refine wpList_append_byt rfl _ _ rfl (w3.alloc (.cells #[.int .u16 0, .int .u8 0, .int .u8 0, .int .u8 0, .int .u8 0, .int .u8 0] 25)).heap.size _ X rfl (HV4.out.alloc _) _ [c] rfl (Byt.one _ _ c _ hxc.out) (by rw [HXL.out, List.length_singleton]; decide) (Nat.le_trans HS4.out (by simp)) ?_; intro v5 w5 ho5 hg5 _; have HV5 := Lib.hid ho5; have HB5 := Lib.hid ((HB4.out.alloc HB4.out.size _).grown hg5 (by have := HB4.out.size; simp; omega) (fun j hj => Nat.le_trans HB3.out.size (Own.lt HV4.out j hj).1)); have HO5 := Lib.hid (Own.kept (HO4.out.alloc _) hg5 (fun j hj e => by rw [ownB_some (by omega)] at hj; cases hj; have h1 := (Own.lt HV4.out g e).1; have h2 := HG4.out; omega)); clear ho5 hg5 HO4 HV4 HS4 HG4)
      | fail)
    refine (gen_none _ (X ++ [c]) _ HV5.out.byt (by rw [List.length_append, HXL.out, List.length_singleton]; decide) (by rw [List.length_append, HXL.out, List.length_singleton]; decide)).mono ?_
    rintro e w6 ⟨rfl, hb⟩
    have HB6 := Lib.hid ((HB5.out.trans (hb.mono HB5.out.size)).alloc (by have h1 := HB5.out.size; have h2 := hb.size; omega) (.cells #[.int .u16 0, .int .u8 0, .int .u8 0, .int .u8 0, .int .u8 0, .int .u8 0] 25))
    have HO6 : Hid (OwnB _ _ _ X) := Lib.hid ((OwnB.below HO5.out hb).alloc (.cells #[.int .u16 0, .int .u8 0, .int .u8 0, .int .u8 0, .int .u8 0, .int .u8 0] 25))
    clear hb HV5
    go_wp2_with fail
    refine (utc_none _ X _ HO6.out.byt (by rw [HXL.out]; decide) (by rw [HXL.out]; decide)).mono ?_
    rintro e w7 ⟨rfl, hb⟩
    have HB7 := Lib.hid ((HB6.out.trans (hb.mono HB6.out.size)).alloc (by have h1 := HB6.out.size; have h2 := hb.size; omega) (.cells #[.int .u16 0, .int .u8 0, .int .u8 0, .int .u8 0, .int .u8 0, .int .u8 0] 25))
    have HO7 : Hid (OwnB _ _ _ X) := Lib.hid ((OwnB.below HO6.out hb).alloc (.cells #[.int .u16 0, .int .u8 0, .int .u8 0, .int .u8 0, .int .u8 0, .int .u8 0] 25))
    clear hb
    have hcell := OwnB.cell_at HO7.out k (by rw [HXL.out]; omega)
    have hfz := OwnB.free HO7.out (by decide) k
    have HO := Lib.hid (OwnB.set HO7.out k (by omega) c x hxc.out)
    have HB8 := Lib.hid (HB7.out.setCell (p := ⟨g, k, none⟩) (by show w.heap.size ≤ g; omega) (.int .u8 x))
    go_wp2_with fail
    refine (HG.out _ _ HO.out.byt).mono ?_
    rintro e w9 ⟨q, rfl, hb⟩
    have HB9 := Lib.hid ((HB8.out.trans (hb.mono HB8.out.size)).alloc (by have h1 := HB8.out.size; have h2 := hb.size; omega) (.cells #[.int .u16 q.y, .int .u8 q.mo, .int .u8 q.d, .int .u8 q.h, .int .u8 q.mi, .int .u8 q.s] 25))
    clear hb hcell hfz
    rcases hways with ⟨k14, ⟨q1, rfl⟩ | ⟨q1, q2, rfl⟩ | ⟨q1, q2⟩⟩ | ⟨k14, ⟨q1, q3, rfl⟩ | ⟨q1, q2, q3, rfl⟩ | ⟨q1, q2, q3⟩ | ⟨q1, q2, q3, rfl⟩⟩
    all_goals
      go_wp2_with (go_at_call 13; refine (works_calls _).mono ?_; rintro e w10 ⟨rfl, hb⟩; have HB10 := Lib.hid (HB9.out.trans (hb.mono HB9.out.size)); clear hb)
      go_ret
      exact ⟨rfl, HB10.out⟩

theorem stampCuts_walk (t : Tm) (p x : Int) (w : World) (ht : t.Fit) (hp : (Lit.int .i64 p).wf = true) (hx : (Lit.int .u8 x).wf = true) :
    Calls Try.prog 12 #[tmV t, .int .i64 p, .int .u8 x] w fun e w' => e = .returned (.bool true) ∧ Below w.heap.size w w' := by
  cases hr : rightB t with
  | false => exact stampCuts_none t p x w ht hr
  | true => exact stampCuts_yes t p x w ht hr hp hx
end Go.Proofs.Ytjjggnipicpjkaa
