/-
  The walk of the law OctetOdd: every text of at most 1048576 bytes, every place and byte.
-/
import Derived.Test.YtookmdkcpbpofaaOddPlain
import Derived.Test.YtookmdkcpbpofaaSit
import Derived.OpenShut
namespace Go.Proofs.Ytookmdkcpbpofaa
open Go Go.RowKit

/-- How a place of any sign falls into a text: by the rest, and once the length more where that is below 0. -/
theorem tmod_ways (p : Int) (L : Nat) (hL : 0 < L) : (0 ≤ p ∧ ∃ k : Nat, k < L ∧ p % (L : Int) = (k : Int)) ∨ (p < 0 ∧ p.tmod (L : Int) = 0) ∨ (p < 0 ∧ ∃ (r : Int) (k : Nat), p.tmod (L : Int) = r ∧ r < 0 ∧ -(L : Int) < r ∧ k < L ∧ r + (L : Int) = (k : Int)) := by
  by_cases h : 0 ≤ p
  · refine .inl ⟨h, (p % (L : Int)).toNat, ?_, ?_⟩
    · have := Int.emod_lt_of_pos p (show (0 : Int) < L by omega); have := Int.emod_nonneg p (show (L : Int) ≠ 0 by omega); omega
    · have := Int.emod_nonneg p (show (L : Int) ≠ 0 by omega); omega
  · have h1 : p.tmod (L : Int) = -((-p) % (L : Int)) := by
      rw [← Int.tmod_eq_emod_of_nonneg (by omega : 0 ≤ -p), Int.neg_tmod]; omega
    have h2 := Int.emod_lt_of_pos (-p) (show (0 : Int) < L by omega)
    have h3 := Int.emod_nonneg (-p) (show (L : Int) ≠ 0 by omega)
    rw [h1]
    generalize (-p) % (L : Int) = q at *
    by_cases hq : q = 0
    · exact .inr (.inl ⟨by omega, by omega⟩)
    · exact .inr (.inr ⟨by omega, -q, (L - q).toNat, rfl, by omega, by omega, by omega, by omega⟩)

set_option maxHeartbeats 8000000 in
theorem octetOdd_walk (s : ByteArray) (p x : Int) (w : World) (hs : s.size ≤ 1048576) (hp : (Lit.int .i64 p).wf = true) (hx : (Lit.int .u8 x).wf = true) :
    Calls Try.prog 9 #[.string s, .int .i64 p, .int .u8 x] w fun e w' => e = .returned (.bool true) ∧ Below w.heap.size w w' := by
  have hp1 := bounds_i64 hp
  have hx1 := bounds_u8 hx
  clear hp hx
  obtain ⟨t, ht, hst⟩ : ∃ l : List UInt8, s = sOf l ∧ s.size = l.length := ⟨s.data.toList, (sOf_toList s).symm, (Array.length_toList (xs := s.data)).symm⟩
  have HT := Lib.hid ht
  have HST := Lib.hid hst
  have HW0 : Hid (∀ w, Calls Try.prog 25 #[.string s] w fun e w' => ∃ v', e = .returned v' ∧ OwnB w' w.heap.size v' (wideL t) ∧ Below w.heap.size w w') := Lib.hid (fun w => by rw [ht]; exact wide_calls t w (by omega))
  clear ht hst
  have HWl : Hid ((wideL t).length ≤ 2 * s.size) := Lib.hid (by rw [HST.out]; exact wideL_length_le t)
  by_cases hb : 4096 < s.size
  · obtain ⟨n, hn⟩ : ∃ n, Hid (n = (wideL t).length) := ⟨_, Lib.hid rfl⟩
    have HW : Hid (∀ w, Calls Try.prog 25 #[.string s] w fun e w' => ∃ a c, e = .returned (.slice a n c) ∧ Below w.heap.size w w') := Lib.hid (fun w => (HW0.out w).mono (by
      rintro e w' ⟨v', rfl, ho, hb⟩
      obtain ⟨a, c, e1, _, _⟩ := Own.shape ho
      rw [← hn.out] at e1
      exact ⟨a, c, by rw [e1], hb⟩))
    go_enter Try.func9, Try.ntmps9
    go_wp2_with (first
      | (go_at_call 25; refine (HW.out _).mono ?_; rintro e w1 ⟨a1, c1, rfl, hb1⟩; have HB1 := Lib.hid hb1; clear hb1)
      | (go_at_call 12; refine (works_calls _).mono ?_; rintro e w6 ⟨rfl, hb6⟩; have HB6 := Lib.hid hb6; clear hb6))
    go_ret
    exact ⟨rfl, HB1.out.trans (HB6.out.mono HB1.out.size)⟩
  · by_cases hall : t.all letB = true ∧ 0 < t.length
    · obtain ⟨hlet, ht0⟩ := hall
      obtain ⟨WL, hWd⟩ : ∃ W, Hid (W = dbl t) := ⟨_, Lib.hid rfl⟩
      obtain ⟨L, hWL⟩ : ∃ L, Hid (L = WL.length) := ⟨_, Lib.hid rfl⟩
      have hL2 : Hid (L = 2 * t.length) := Lib.hid (by rw [hWL.out, hWd.out, dbl_length])
      have hL0 : 0 < L := by have := hL2.out; omega
      have hLb : L ≤ 8192 := by have := hL2.out; have := HST.out; omega
      have hWl2 : Hid (WL.length ≤ 8192) := Lib.hid (by rw [← hWL.out]; exact hLb)
      have HW : Hid (∀ w, Calls Try.prog 25 #[.string s] w fun e w' => ∃ g c, e = .returned (.slice (some ⟨g, 0, none⟩) L c) ∧ w.heap.size ≤ g ∧ L ≤ c ∧ c ≤ 9223372036854775807 ∧ OwnB w' w.heap.size (.slice (some ⟨g, 0, none⟩) L c) WL ∧ Below w.heap.size w w') := Lib.hid (fun w => (HW0.out w).mono (by
        rintro e w' ⟨v', rfl, ho, hb⟩
        rw [wideL_all t hlet, ← hWd.out] at ho
        obtain ⟨g, c, e1, hg1, _, _, h4, h5⟩ := Own.head ho (by rw [← hWL.out]; exact hL0)
        rw [← hWL.out] at e1 h4
        subst e1
        unfold maxLen at h5
        exact ⟨g, c, rfl, hg1, h4, by omega, ho, hb⟩))
      obtain ⟨c, hxc⟩ : ∃ c : UInt8, Hid (x = (c.toNat : Int)) := ⟨UInt8.ofNat x.toNat, Lib.hid (by rw [UInt8.toNat_ofNat']; omega)⟩
      obtain ⟨T1, hT1⟩ : ∃ T, Hid (T = sOf (narS (WL ++ [c]))) := ⟨_, Lib.hid rfl⟩
      have HN1 : Hid (∀ v w, Byt w v (WL ++ [c]) → Calls Try.prog 23 #[v] w fun e w' => e = .returned (.tuple #[.string T1, .int .i64 9]) ∧ Below w.heap.size w w') := Lib.hid (fun v w h => by
        have := narrow_calls v (WL ++ [c]) w h (by have := hWl2.out; simp; omega)
        rw [← hT1.out, hWd.out, odd_more] at this
        exact this)
      have HLET := Lib.hid hlet
      have hL00 : ((L : Int) == 0) = false := by simpa using (by omega : ¬ (L : Int) = 0)
      have hb00 : decide ((4096 : Int) < (s.size : Int)) = false := by simp; omega
      clear HW0 HWl hlet
      have hways := Lib.hid (tmod_ways p L hL0)
      obtain ⟨k, hkL, hkw⟩ : ∃ k : Nat, k < L ∧ Hid ((0 ≤ p ∧ p % (L : Int) = (k : Int)) ∨ (p < 0 ∧ p.tmod (L : Int) = (k : Int)) ∨ (p < 0 ∧ ∃ (r : Int), p.tmod (L : Int) = r ∧ r < 0 ∧ -(L : Int) < r ∧ r + (L : Int) = (k : Int))) := by
        rcases hways.out with ⟨h, k, hk, e⟩ | ⟨h, e⟩ | ⟨h, r, k, e1, e2, e3, e4, e5⟩
        · exact ⟨k, hk, Lib.hid (.inl ⟨h, e⟩)⟩
        · exact ⟨0, hL0, Lib.hid (.inr (.inl ⟨h, e⟩))⟩
        · exact ⟨k, e4, Lib.hid (.inr (.inr ⟨h, r, e1, e2, e3, e5⟩))⟩
      obtain ⟨U, hU⟩ : ∃ U : Int, Hid (U = (((WL.getD k 0).toNat : Nat) : Int)) := ⟨_, Lib.hid rfl⟩
      clear hways
      rcases Nat.mod_two_eq_zero_or_one k with hpar | hpar
      · -- a first byte
        obtain ⟨j, hj⟩ : ∃ j, Hid (k = 2 * j) := ⟨k / 2, Lib.hid (by omega)⟩
        have hjt : Hid (j < t.length) := Lib.hid (by have := hj.out; have := hL2.out; omega)
        have HF := Lib.hid (odd_first t HLET.out j hjt.out c)
        have HUt : Hid (U = (((t.getD j 0).toNat : Nat) : Int)) := Lib.hid (by rw [hU.out, hWd.out, hj.out, (dbl_getD t j).1])
        have hpar2 : (k : Int) % 2 = 0 := by omega
        clear hpar
        by_cases hlc : 1 ≤ x ∧ x ≤ 127
        · obtain ⟨q1, q2⟩ := hlc
          have hlet2 : Hid (letB c = true) := Lib.hid (by rw [letB_iff]; have := hxc.out; omega)
          obtain ⟨T2, hT2⟩ : ∃ T, Hid (T = sOf (t.set j c)) := ⟨_, Lib.hid rfl⟩
          have HN2 : Hid (∀ v w, Byt w v (WL.set k c) → Calls Try.prog 23 #[v] w fun e w' => e = .returned (.tuple #[.string T2, .int .i64 0]) ∧ Below w.heap.size w w') := Lib.hid (fun v w h => by
            have := narrow_calls v (WL.set k c) w h (by have := hWl2.out; simp; omega)
            rw [hWd.out, hj.out, (HF.out.1 hlet2.out).1, (HF.out.1 hlet2.out).2, ← hT2.out] at this
            exact this)
          by_cases hxu : x = U
          · have hTS : (T2.toList == s.toList) = true := by
              rw [hT2.out, HT.out, sOf_beq, decide_eq_true_iff, set_eq_iff t j hjt.out]
              apply UInt8.toNat_inj.1
              have := hxc.out; have := HUt.out; omega
            subst hxu
            rcases hkw.out with ⟨hp0, hk1⟩ | ⟨hp0, hk1⟩ | ⟨hp0, r, hk1, hr1, hr2, hk3⟩
            · skip
              go_enter Try.func9, Try.ntmps9
              go_wp2_with (go_at_call 25; refine (HW.out _).mono ?_; rintro e w1 ⟨g, cap1, rfl, hgw, hc1, hc2, ho, hb⟩; have S := Lib.hid ((Sit.start0 w).born hb ho); clear hb ho)
              go_wp2_with (first
                | (go_at_call 27; refine (copyBytes_calls _ WL _ S.out.o0.byt (by have := hWl2.out; omega)).mono ?_; rintro e w2 ⟨v2, rfl, ho, hb⟩; replace S := Lib.hid ((S.out.born hb ho).alloc (.cells #[.int .u8 x] 5)); clear hb ho)
                | (at_builtin; (refine wpList_append_byt2 rfl _ _ rfl w.heap.size _ WL rfl S.out.o0 _ [c] rfl (Byt.one _ _ _ _ hxc.out) ?c1 ?c2 ?_)))
              case c1 => have := hWl2.out; simp; omega
              case c2 => exact S.out.bel.size
              intro v3 w3 hn3 hg3 _ _
              have B3 := Lib.hid (S.out.bel.grown hg3 S.out.bel.size (fun b hb => (Own.lt S.out.o0 b hb).1))
              have O3 := Lib.hid (Own.kept S.out.o1 hg3 (fun b hb => S.out.part 1 0 (by simp) (by simp) (by decide) b hb))
              have N3 := Lib.hid hn3
              clear hn3 hg3 S
              go_wp2_with fail
              refine (HN1.out _ _ N3.out.byt).mono ?_
              rintro e w4 ⟨rfl, hb⟩
              have B4 := Lib.hid (B3.out.trans (hb.mono B3.out.size))
              have O4 := Lib.hid (OwnB.below O3.out hb)
              have hcell := OwnB.cell_at O4.out k (by rw [← hWL.out]; exact hkL)
              rw [← hU.out] at hcell
              have hfz := OwnB.free O4.out (by omega) k
              have O5 := Lib.hid (OwnB.set O4.out k hkL c x hxc.out)
              clear hb
              go_wp2_with fail
              refine (HN2.out _ _ O5.out.byt).mono ?_
              rintro e w5 ⟨rfl, hb⟩
              have B5 := Lib.hid ((B4.out.setCell (p := ⟨g, k, none⟩) hgw (.int .u8 x)).trans (hb.mono (by have := B4.out.size; simp [World.setCell]; omega)))
              clear hb hcell hfz
              go_wp2_with (go_at_call 12; refine (works_calls _).mono ?_; rintro e w6 ⟨rfl, hb6⟩; have HB6 := Lib.hid hb6; clear hb6)
              go_ret
              exact ⟨rfl, B5.out.trans (HB6.out.mono B5.out.size)⟩
            · skip
              go_enter Try.func9, Try.ntmps9
              go_wp2_with (go_at_call 25; refine (HW.out _).mono ?_; rintro e w1 ⟨g, cap1, rfl, hgw, hc1, hc2, ho, hb⟩; have S := Lib.hid ((Sit.start0 w).born hb ho); clear hb ho)
              go_wp2_with (first
                | (go_at_call 27; refine (copyBytes_calls _ WL _ S.out.o0.byt (by have := hWl2.out; omega)).mono ?_; rintro e w2 ⟨v2, rfl, ho, hb⟩; replace S := Lib.hid ((S.out.born hb ho).alloc (.cells #[.int .u8 x] 5)); clear hb ho)
                | (at_builtin; (refine wpList_append_byt2 rfl _ _ rfl w.heap.size _ WL rfl S.out.o0 _ [c] rfl (Byt.one _ _ _ _ hxc.out) ?c1 ?c2 ?_)))
              case c1 => have := hWl2.out; simp; omega
              case c2 => exact S.out.bel.size
              intro v3 w3 hn3 hg3 _ _
              have B3 := Lib.hid (S.out.bel.grown hg3 S.out.bel.size (fun b hb => (Own.lt S.out.o0 b hb).1))
              have O3 := Lib.hid (Own.kept S.out.o1 hg3 (fun b hb => S.out.part 1 0 (by simp) (by simp) (by decide) b hb))
              have N3 := Lib.hid hn3
              clear hn3 hg3 S
              go_wp2_with fail
              refine (HN1.out _ _ N3.out.byt).mono ?_
              rintro e w4 ⟨rfl, hb⟩
              have B4 := Lib.hid (B3.out.trans (hb.mono B3.out.size))
              have O4 := Lib.hid (OwnB.below O3.out hb)
              have hcell := OwnB.cell_at O4.out k (by rw [← hWL.out]; exact hkL)
              rw [← hU.out] at hcell
              have hfz := OwnB.free O4.out (by omega) k
              have O5 := Lib.hid (OwnB.set O4.out k hkL c x hxc.out)
              clear hb
              go_wp2_with fail
              refine (HN2.out _ _ O5.out.byt).mono ?_
              rintro e w5 ⟨rfl, hb⟩
              have B5 := Lib.hid ((B4.out.setCell (p := ⟨g, k, none⟩) hgw (.int .u8 x)).trans (hb.mono (by have := B4.out.size; simp [World.setCell]; omega)))
              clear hb hcell hfz
              go_wp2_with (go_at_call 12; refine (works_calls _).mono ?_; rintro e w6 ⟨rfl, hb6⟩; have HB6 := Lib.hid hb6; clear hb6)
              go_ret
              exact ⟨rfl, B5.out.trans (HB6.out.mono B5.out.size)⟩
            · skip
              go_enter Try.func9, Try.ntmps9
              go_wp2_with (go_at_call 25; refine (HW.out _).mono ?_; rintro e w1 ⟨g, cap1, rfl, hgw, hc1, hc2, ho, hb⟩; have S := Lib.hid ((Sit.start0 w).born hb ho); clear hb ho)
              go_wp2_with (first
                | (go_at_call 27; refine (copyBytes_calls _ WL _ S.out.o0.byt (by have := hWl2.out; omega)).mono ?_; rintro e w2 ⟨v2, rfl, ho, hb⟩; replace S := Lib.hid ((S.out.born hb ho).alloc (.cells #[.int .u8 x] 5)); clear hb ho)
                | (at_builtin; (refine wpList_append_byt2 rfl _ _ rfl w.heap.size _ WL rfl S.out.o0 _ [c] rfl (Byt.one _ _ _ _ hxc.out) ?c1 ?c2 ?_)))
              case c1 => have := hWl2.out; simp; omega
              case c2 => exact S.out.bel.size
              intro v3 w3 hn3 hg3 _ _
              have B3 := Lib.hid (S.out.bel.grown hg3 S.out.bel.size (fun b hb => (Own.lt S.out.o0 b hb).1))
              have O3 := Lib.hid (Own.kept S.out.o1 hg3 (fun b hb => S.out.part 1 0 (by simp) (by simp) (by decide) b hb))
              have N3 := Lib.hid hn3
              clear hn3 hg3 S
              go_wp2_with fail
              refine (HN1.out _ _ N3.out.byt).mono ?_
              rintro e w4 ⟨rfl, hb⟩
              have B4 := Lib.hid (B3.out.trans (hb.mono B3.out.size))
              have O4 := Lib.hid (OwnB.below O3.out hb)
              have hcell := OwnB.cell_at O4.out k (by rw [← hWL.out]; exact hkL)
              rw [← hU.out] at hcell
              have hfz := OwnB.free O4.out (by omega) k
              have O5 := Lib.hid (OwnB.set O4.out k hkL c x hxc.out)
              clear hb
              go_wp2_with fail
              refine (HN2.out _ _ O5.out.byt).mono ?_
              rintro e w5 ⟨rfl, hb⟩
              have B5 := Lib.hid ((B4.out.setCell (p := ⟨g, k, none⟩) hgw (.int .u8 x)).trans (hb.mono (by have := B4.out.size; simp [World.setCell]; omega)))
              clear hb hcell hfz
              go_wp2_with (go_at_call 12; refine (works_calls _).mono ?_; rintro e w6 ⟨rfl, hb6⟩; have HB6 := Lib.hid hb6; clear hb6)
              go_ret
              exact ⟨rfl, B5.out.trans (HB6.out.mono B5.out.size)⟩
          · have hTS : (T2.toList == s.toList) = false := by
              rw [hT2.out, HT.out, sOf_beq, decide_eq_false_iff_not, set_eq_iff t j hjt.out]
              intro e
              refine hxu ?_
              rw [hxc.out, HUt.out, e]
            have hxu2 : (x == U) = false := by simpa using hxu
            have HXU := Lib.hid hxu
            clear hxu
            rcases hkw.out with ⟨hp0, hk1⟩ | ⟨hp0, hk1⟩ | ⟨hp0, r, hk1, hr1, hr2, hk3⟩
            · skip
              go_enter Try.func9, Try.ntmps9
              go_wp2_with (go_at_call 25; refine (HW.out _).mono ?_; rintro e w1 ⟨g, cap1, rfl, hgw, hc1, hc2, ho, hb⟩; have S := Lib.hid ((Sit.start0 w).born hb ho); clear hb ho)
              go_wp2_with (first
                | (go_at_call 27; refine (copyBytes_calls _ WL _ S.out.o0.byt (by have := hWl2.out; omega)).mono ?_; rintro e w2 ⟨v2, rfl, ho, hb⟩; replace S := Lib.hid ((S.out.born hb ho).alloc (.cells #[.int .u8 x] 5)); clear hb ho)
                | (at_builtin; (refine wpList_append_byt2 rfl _ _ rfl w.heap.size _ WL rfl S.out.o0 _ [c] rfl (Byt.one _ _ _ _ hxc.out) ?c1 ?c2 ?_)))
              case c1 => have := hWl2.out; simp; omega
              case c2 => exact S.out.bel.size
              intro v3 w3 hn3 hg3 _ _
              have B3 := Lib.hid (S.out.bel.grown hg3 S.out.bel.size (fun b hb => (Own.lt S.out.o0 b hb).1))
              have O3 := Lib.hid (Own.kept S.out.o1 hg3 (fun b hb => S.out.part 1 0 (by simp) (by simp) (by decide) b hb))
              have N3 := Lib.hid hn3
              clear hn3 hg3 S
              go_wp2_with fail
              refine (HN1.out _ _ N3.out.byt).mono ?_
              rintro e w4 ⟨rfl, hb⟩
              have B4 := Lib.hid (B3.out.trans (hb.mono B3.out.size))
              have O4 := Lib.hid (OwnB.below O3.out hb)
              have hcell := OwnB.cell_at O4.out k (by rw [← hWL.out]; exact hkL)
              rw [← hU.out] at hcell
              have hfz := OwnB.free O4.out (by omega) k
              have O5 := Lib.hid (OwnB.set O4.out k hkL c x hxc.out)
              clear hb
              go_wp2_with fail
              refine (HN2.out _ _ O5.out.byt).mono ?_
              rintro e w5 ⟨rfl, hb⟩
              have B5 := Lib.hid ((B4.out.setCell (p := ⟨g, k, none⟩) hgw (.int .u8 x)).trans (hb.mono (by have := B4.out.size; simp [World.setCell]; omega)))
              clear hb hcell hfz
              go_wp2_with (go_at_call 12; refine (works_calls _).mono ?_; rintro e w6 ⟨rfl, hb6⟩; have HB6 := Lib.hid hb6; clear hb6)
              go_ret
              exact ⟨rfl, B5.out.trans (HB6.out.mono B5.out.size)⟩
            · skip
              go_enter Try.func9, Try.ntmps9
              go_wp2_with (go_at_call 25; refine (HW.out _).mono ?_; rintro e w1 ⟨g, cap1, rfl, hgw, hc1, hc2, ho, hb⟩; have S := Lib.hid ((Sit.start0 w).born hb ho); clear hb ho)
              go_wp2_with (first
                | (go_at_call 27; refine (copyBytes_calls _ WL _ S.out.o0.byt (by have := hWl2.out; omega)).mono ?_; rintro e w2 ⟨v2, rfl, ho, hb⟩; replace S := Lib.hid ((S.out.born hb ho).alloc (.cells #[.int .u8 x] 5)); clear hb ho)
                | (at_builtin; (refine wpList_append_byt2 rfl _ _ rfl w.heap.size _ WL rfl S.out.o0 _ [c] rfl (Byt.one _ _ _ _ hxc.out) ?c1 ?c2 ?_)))
              case c1 => have := hWl2.out; simp; omega
              case c2 => exact S.out.bel.size
              intro v3 w3 hn3 hg3 _ _
              have B3 := Lib.hid (S.out.bel.grown hg3 S.out.bel.size (fun b hb => (Own.lt S.out.o0 b hb).1))
              have O3 := Lib.hid (Own.kept S.out.o1 hg3 (fun b hb => S.out.part 1 0 (by simp) (by simp) (by decide) b hb))
              have N3 := Lib.hid hn3
              clear hn3 hg3 S
              go_wp2_with fail
              refine (HN1.out _ _ N3.out.byt).mono ?_
              rintro e w4 ⟨rfl, hb⟩
              have B4 := Lib.hid (B3.out.trans (hb.mono B3.out.size))
              have O4 := Lib.hid (OwnB.below O3.out hb)
              have hcell := OwnB.cell_at O4.out k (by rw [← hWL.out]; exact hkL)
              rw [← hU.out] at hcell
              have hfz := OwnB.free O4.out (by omega) k
              have O5 := Lib.hid (OwnB.set O4.out k hkL c x hxc.out)
              clear hb
              go_wp2_with fail
              refine (HN2.out _ _ O5.out.byt).mono ?_
              rintro e w5 ⟨rfl, hb⟩
              have B5 := Lib.hid ((B4.out.setCell (p := ⟨g, k, none⟩) hgw (.int .u8 x)).trans (hb.mono (by have := B4.out.size; simp [World.setCell]; omega)))
              clear hb hcell hfz
              go_wp2_with (go_at_call 12; refine (works_calls _).mono ?_; rintro e w6 ⟨rfl, hb6⟩; have HB6 := Lib.hid hb6; clear hb6)
              go_ret
              exact ⟨rfl, B5.out.trans (HB6.out.mono B5.out.size)⟩
            · skip
              go_enter Try.func9, Try.ntmps9
              go_wp2_with (go_at_call 25; refine (HW.out _).mono ?_; rintro e w1 ⟨g, cap1, rfl, hgw, hc1, hc2, ho, hb⟩; have S := Lib.hid ((Sit.start0 w).born hb ho); clear hb ho)
              go_wp2_with (first
                | (go_at_call 27; refine (copyBytes_calls _ WL _ S.out.o0.byt (by have := hWl2.out; omega)).mono ?_; rintro e w2 ⟨v2, rfl, ho, hb⟩; replace S := Lib.hid ((S.out.born hb ho).alloc (.cells #[.int .u8 x] 5)); clear hb ho)
                | (at_builtin; (refine wpList_append_byt2 rfl _ _ rfl w.heap.size _ WL rfl S.out.o0 _ [c] rfl (Byt.one _ _ _ _ hxc.out) ?c1 ?c2 ?_)))
              case c1 => have := hWl2.out; simp; omega
              case c2 => exact S.out.bel.size
              intro v3 w3 hn3 hg3 _ _
              have B3 := Lib.hid (S.out.bel.grown hg3 S.out.bel.size (fun b hb => (Own.lt S.out.o0 b hb).1))
              have O3 := Lib.hid (Own.kept S.out.o1 hg3 (fun b hb => S.out.part 1 0 (by simp) (by simp) (by decide) b hb))
              have N3 := Lib.hid hn3
              clear hn3 hg3 S
              go_wp2_with fail
              refine (HN1.out _ _ N3.out.byt).mono ?_
              rintro e w4 ⟨rfl, hb⟩
              have B4 := Lib.hid (B3.out.trans (hb.mono B3.out.size))
              have O4 := Lib.hid (OwnB.below O3.out hb)
              have hcell := OwnB.cell_at O4.out k (by rw [← hWL.out]; exact hkL)
              rw [← hU.out] at hcell
              have hfz := OwnB.free O4.out (by omega) k
              have O5 := Lib.hid (OwnB.set O4.out k hkL c x hxc.out)
              clear hb
              go_wp2_with fail
              refine (HN2.out _ _ O5.out.byt).mono ?_
              rintro e w5 ⟨rfl, hb⟩
              have B5 := Lib.hid ((B4.out.setCell (p := ⟨g, k, none⟩) hgw (.int .u8 x)).trans (hb.mono (by have := B4.out.size; simp [World.setCell]; omega)))
              clear hb hcell hfz
              go_wp2_with (go_at_call 12; refine (works_calls _).mono ?_; rintro e w6 ⟨rfl, hb6⟩; have HB6 := Lib.hid hb6; clear hb6)
              go_ret
              exact ⟨rfl, B5.out.trans (HB6.out.mono B5.out.size)⟩
        · have hlet2 : Hid (letB c = false) := Lib.hid (letB_not c (by have := hxc.out; omega))
          obtain ⟨T2, hT2⟩ : ∃ T, Hid (T = sOf (narS (WL.set k c))) := ⟨_, Lib.hid rfl⟩
          have HN2 : Hid (∀ v w, Byt w v (WL.set k c) → Calls Try.prog 23 #[v] w fun e w' => e = .returned (.tuple #[.string T2, .int .i64 9]) ∧ Below w.heap.size w w') := Lib.hid (fun v w h => by
            have := narrow_calls v (WL.set k c) w h (by have := hWl2.out; simp; omega)
            rw [← hT2.out, hWd.out, hj.out, HF.out.2 hlet2.out] at this
            exact this)
          have hlc' : (x < 1 ∧ True) ∨ (127 < x ∧ decide (x ≤ 127) = false) := by
            by_cases q : x < 1
            · exact .inl ⟨q, trivial⟩
            · exact .inr ⟨by omega, by simp; omega⟩
          clear hlc
          rcases hlc' with ⟨hlc, hlcd⟩ | ⟨hlc, hlcd⟩
          all_goals
            rcases hkw.out with ⟨hp0, hk1⟩ | ⟨hp0, hk1⟩ | ⟨hp0, r, hk1, hr1, hr2, hk3⟩
            · skip
              go_enter Try.func9, Try.ntmps9
              go_wp2_with (go_at_call 25; refine (HW.out _).mono ?_; rintro e w1 ⟨g, cap1, rfl, hgw, hc1, hc2, ho, hb⟩; have S := Lib.hid ((Sit.start0 w).born hb ho); clear hb ho)
              go_wp2_with (first
                | (go_at_call 27; refine (copyBytes_calls _ WL _ S.out.o0.byt (by have := hWl2.out; omega)).mono ?_; rintro e w2 ⟨v2, rfl, ho, hb⟩; replace S := Lib.hid ((S.out.born hb ho).alloc (.cells #[.int .u8 x] 5)); clear hb ho)
                | (at_builtin; (refine wpList_append_byt2 rfl _ _ rfl w.heap.size _ WL rfl S.out.o0 _ [c] rfl (Byt.one _ _ _ _ hxc.out) ?c1 ?c2 ?_)))
              case c1 => have := hWl2.out; simp; omega
              case c2 => exact S.out.bel.size
              intro v3 w3 hn3 hg3 _ _
              have B3 := Lib.hid (S.out.bel.grown hg3 S.out.bel.size (fun b hb => (Own.lt S.out.o0 b hb).1))
              have O3 := Lib.hid (Own.kept S.out.o1 hg3 (fun b hb => S.out.part 1 0 (by simp) (by simp) (by decide) b hb))
              have N3 := Lib.hid hn3
              clear hn3 hg3 S
              go_wp2_with fail
              refine (HN1.out _ _ N3.out.byt).mono ?_
              rintro e w4 ⟨rfl, hb⟩
              have B4 := Lib.hid (B3.out.trans (hb.mono B3.out.size))
              have O4 := Lib.hid (OwnB.below O3.out hb)
              have hcell := OwnB.cell_at O4.out k (by rw [← hWL.out]; exact hkL)
              rw [← hU.out] at hcell
              have hfz := OwnB.free O4.out (by omega) k
              have O5 := Lib.hid (OwnB.set O4.out k hkL c x hxc.out)
              clear hb
              go_wp2_with fail
              refine (HN2.out _ _ O5.out.byt).mono ?_
              rintro e w5 ⟨rfl, hb⟩
              have B5 := Lib.hid ((B4.out.setCell (p := ⟨g, k, none⟩) hgw (.int .u8 x)).trans (hb.mono (by have := B4.out.size; simp [World.setCell]; omega)))
              clear hb hcell hfz
              go_wp2_with (go_at_call 12; refine (works_calls _).mono ?_; rintro e w6 ⟨rfl, hb6⟩; have HB6 := Lib.hid hb6; clear hb6)
              go_ret
              exact ⟨rfl, B5.out.trans (HB6.out.mono B5.out.size)⟩
            · skip
              go_enter Try.func9, Try.ntmps9
              go_wp2_with (go_at_call 25; refine (HW.out _).mono ?_; rintro e w1 ⟨g, cap1, rfl, hgw, hc1, hc2, ho, hb⟩; have S := Lib.hid ((Sit.start0 w).born hb ho); clear hb ho)
              go_wp2_with (first
                | (go_at_call 27; refine (copyBytes_calls _ WL _ S.out.o0.byt (by have := hWl2.out; omega)).mono ?_; rintro e w2 ⟨v2, rfl, ho, hb⟩; replace S := Lib.hid ((S.out.born hb ho).alloc (.cells #[.int .u8 x] 5)); clear hb ho)
                | (at_builtin; (refine wpList_append_byt2 rfl _ _ rfl w.heap.size _ WL rfl S.out.o0 _ [c] rfl (Byt.one _ _ _ _ hxc.out) ?c1 ?c2 ?_)))
              case c1 => have := hWl2.out; simp; omega
              case c2 => exact S.out.bel.size
              intro v3 w3 hn3 hg3 _ _
              have B3 := Lib.hid (S.out.bel.grown hg3 S.out.bel.size (fun b hb => (Own.lt S.out.o0 b hb).1))
              have O3 := Lib.hid (Own.kept S.out.o1 hg3 (fun b hb => S.out.part 1 0 (by simp) (by simp) (by decide) b hb))
              have N3 := Lib.hid hn3
              clear hn3 hg3 S
              go_wp2_with fail
              refine (HN1.out _ _ N3.out.byt).mono ?_
              rintro e w4 ⟨rfl, hb⟩
              have B4 := Lib.hid (B3.out.trans (hb.mono B3.out.size))
              have O4 := Lib.hid (OwnB.below O3.out hb)
              have hcell := OwnB.cell_at O4.out k (by rw [← hWL.out]; exact hkL)
              rw [← hU.out] at hcell
              have hfz := OwnB.free O4.out (by omega) k
              have O5 := Lib.hid (OwnB.set O4.out k hkL c x hxc.out)
              clear hb
              go_wp2_with fail
              refine (HN2.out _ _ O5.out.byt).mono ?_
              rintro e w5 ⟨rfl, hb⟩
              have B5 := Lib.hid ((B4.out.setCell (p := ⟨g, k, none⟩) hgw (.int .u8 x)).trans (hb.mono (by have := B4.out.size; simp [World.setCell]; omega)))
              clear hb hcell hfz
              go_wp2_with (go_at_call 12; refine (works_calls _).mono ?_; rintro e w6 ⟨rfl, hb6⟩; have HB6 := Lib.hid hb6; clear hb6)
              go_ret
              exact ⟨rfl, B5.out.trans (HB6.out.mono B5.out.size)⟩
            · skip
              go_enter Try.func9, Try.ntmps9
              go_wp2_with (go_at_call 25; refine (HW.out _).mono ?_; rintro e w1 ⟨g, cap1, rfl, hgw, hc1, hc2, ho, hb⟩; have S := Lib.hid ((Sit.start0 w).born hb ho); clear hb ho)
              go_wp2_with (first
                | (go_at_call 27; refine (copyBytes_calls _ WL _ S.out.o0.byt (by have := hWl2.out; omega)).mono ?_; rintro e w2 ⟨v2, rfl, ho, hb⟩; replace S := Lib.hid ((S.out.born hb ho).alloc (.cells #[.int .u8 x] 5)); clear hb ho)
                | (at_builtin; (refine wpList_append_byt2 rfl _ _ rfl w.heap.size _ WL rfl S.out.o0 _ [c] rfl (Byt.one _ _ _ _ hxc.out) ?c1 ?c2 ?_)))
              case c1 => have := hWl2.out; simp; omega
              case c2 => exact S.out.bel.size
              intro v3 w3 hn3 hg3 _ _
              have B3 := Lib.hid (S.out.bel.grown hg3 S.out.bel.size (fun b hb => (Own.lt S.out.o0 b hb).1))
              have O3 := Lib.hid (Own.kept S.out.o1 hg3 (fun b hb => S.out.part 1 0 (by simp) (by simp) (by decide) b hb))
              have N3 := Lib.hid hn3
              clear hn3 hg3 S
              go_wp2_with fail
              refine (HN1.out _ _ N3.out.byt).mono ?_
              rintro e w4 ⟨rfl, hb⟩
              have B4 := Lib.hid (B3.out.trans (hb.mono B3.out.size))
              have O4 := Lib.hid (OwnB.below O3.out hb)
              have hcell := OwnB.cell_at O4.out k (by rw [← hWL.out]; exact hkL)
              rw [← hU.out] at hcell
              have hfz := OwnB.free O4.out (by omega) k
              have O5 := Lib.hid (OwnB.set O4.out k hkL c x hxc.out)
              clear hb
              go_wp2_with fail
              refine (HN2.out _ _ O5.out.byt).mono ?_
              rintro e w5 ⟨rfl, hb⟩
              have B5 := Lib.hid ((B4.out.setCell (p := ⟨g, k, none⟩) hgw (.int .u8 x)).trans (hb.mono (by have := B4.out.size; simp [World.setCell]; omega)))
              clear hb hcell hfz
              go_wp2_with (go_at_call 12; refine (works_calls _).mono ?_; rintro e w6 ⟨rfl, hb6⟩; have HB6 := Lib.hid hb6; clear hb6)
              go_ret
              exact ⟨rfl, B5.out.trans (HB6.out.mono B5.out.size)⟩
      · -- a second byte
        obtain ⟨j, hj⟩ : ∃ j, Hid (k = 2 * j + 1) := ⟨k / 2, Lib.hid (by omega)⟩
        have hjt : Hid (j < t.length) := Lib.hid (by have := hj.out; have := hL2.out; omega)
        have HF := Lib.hid (odd_second t HLET.out j hjt.out c)
        have hpar2 : (k : Int) % 2 = 1 := by omega
        have hpar3 := Lib.hid hpar
        clear hpar
        obtain ⟨T2, hT2⟩ : ∃ T, Hid (T = sOf (narS (WL.set k c))) := ⟨_, Lib.hid rfl⟩
        by_cases hx0 : x = 0
        · have hc0 : Hid (c = 0) := Lib.hid (by apply UInt8.toNat_inj.1; have := hxc.out; simp; omega)
          have HN2 : Hid (∀ v w, Byt w v (WL.set k c) → Calls Try.prog 23 #[v] w fun e w' => e = .returned (.tuple #[.string T2, .int .i64 0]) ∧ Below w.heap.size w w') := Lib.hid (fun v w h => by
            have := narrow_calls v (WL.set k c) w h (by have := hWl2.out; simp; omega)
            rw [← hT2.out, hWd.out, hj.out, HF.out, if_pos hc0.out] at this
            exact this)
          subst hx0
          rcases hkw.out with ⟨hp0, hk1⟩ | ⟨hp0, hk1⟩ | ⟨hp0, r, hk1, hr1, hr2, hk3⟩
          · skip
            go_enter Try.func9, Try.ntmps9
            go_wp2_with (go_at_call 25; refine (HW.out _).mono ?_; rintro e w1 ⟨g, cap1, rfl, hgw, hc1, hc2, ho, hb⟩; have S := Lib.hid ((Sit.start0 w).born hb ho); clear hb ho)
            go_wp2_with (first
              | (go_at_call 27; refine (copyBytes_calls _ WL _ S.out.o0.byt (by have := hWl2.out; omega)).mono ?_; rintro e w2 ⟨v2, rfl, ho, hb⟩; replace S := Lib.hid ((S.out.born hb ho).alloc (.cells #[.int .u8 0] 5)); clear hb ho)
              | (at_builtin; (refine wpList_append_byt2 rfl _ _ rfl w.heap.size _ WL rfl S.out.o0 _ [c] rfl (Byt.one _ _ _ _ hxc.out) ?c1 ?c2 ?_)))
            case c1 => have := hWl2.out; simp; omega
            case c2 => exact S.out.bel.size
            intro v3 w3 hn3 hg3 _ _
            have B3 := Lib.hid (S.out.bel.grown hg3 S.out.bel.size (fun b hb => (Own.lt S.out.o0 b hb).1))
            have O3 := Lib.hid (Own.kept S.out.o1 hg3 (fun b hb => S.out.part 1 0 (by simp) (by simp) (by decide) b hb))
            have N3 := Lib.hid hn3
            clear hn3 hg3 S
            go_wp2_with fail
            refine (HN1.out _ _ N3.out.byt).mono ?_
            rintro e w4 ⟨rfl, hb⟩
            have B4 := Lib.hid (B3.out.trans (hb.mono B3.out.size))
            have O4 := Lib.hid (OwnB.below O3.out hb)
            have hcell := OwnB.cell_at O4.out k (by rw [← hWL.out]; exact hkL)
            rw [← hU.out] at hcell
            have hfz := OwnB.free O4.out (by omega) k
            have O5 := Lib.hid (OwnB.set O4.out k hkL c 0 hxc.out)
            clear hb
            go_wp2_with fail
            refine (HN2.out _ _ O5.out.byt).mono ?_
            rintro e w5 ⟨rfl, hb⟩
            have B5 := Lib.hid ((B4.out.setCell (p := ⟨g, k, none⟩) hgw (.int .u8 0)).trans (hb.mono (by have := B4.out.size; simp [World.setCell]; omega)))
            clear hb hcell hfz
            go_wp2_with (go_at_call 12; refine (works_calls _).mono ?_; rintro e w6 ⟨rfl, hb6⟩; have HB6 := Lib.hid hb6; clear hb6)
            go_ret
            exact ⟨rfl, B5.out.trans (HB6.out.mono B5.out.size)⟩
          · skip
            go_enter Try.func9, Try.ntmps9
            go_wp2_with (go_at_call 25; refine (HW.out _).mono ?_; rintro e w1 ⟨g, cap1, rfl, hgw, hc1, hc2, ho, hb⟩; have S := Lib.hid ((Sit.start0 w).born hb ho); clear hb ho)
            go_wp2_with (first
              | (go_at_call 27; refine (copyBytes_calls _ WL _ S.out.o0.byt (by have := hWl2.out; omega)).mono ?_; rintro e w2 ⟨v2, rfl, ho, hb⟩; replace S := Lib.hid ((S.out.born hb ho).alloc (.cells #[.int .u8 0] 5)); clear hb ho)
              | (at_builtin; (refine wpList_append_byt2 rfl _ _ rfl w.heap.size _ WL rfl S.out.o0 _ [c] rfl (Byt.one _ _ _ _ hxc.out) ?c1 ?c2 ?_)))
            case c1 => have := hWl2.out; simp; omega
            case c2 => exact S.out.bel.size
            intro v3 w3 hn3 hg3 _ _
            have B3 := Lib.hid (S.out.bel.grown hg3 S.out.bel.size (fun b hb => (Own.lt S.out.o0 b hb).1))
            have O3 := Lib.hid (Own.kept S.out.o1 hg3 (fun b hb => S.out.part 1 0 (by simp) (by simp) (by decide) b hb))
            have N3 := Lib.hid hn3
            clear hn3 hg3 S
            go_wp2_with fail
            refine (HN1.out _ _ N3.out.byt).mono ?_
            rintro e w4 ⟨rfl, hb⟩
            have B4 := Lib.hid (B3.out.trans (hb.mono B3.out.size))
            have O4 := Lib.hid (OwnB.below O3.out hb)
            have hcell := OwnB.cell_at O4.out k (by rw [← hWL.out]; exact hkL)
            rw [← hU.out] at hcell
            have hfz := OwnB.free O4.out (by omega) k
            have O5 := Lib.hid (OwnB.set O4.out k hkL c 0 hxc.out)
            clear hb
            go_wp2_with fail
            refine (HN2.out _ _ O5.out.byt).mono ?_
            rintro e w5 ⟨rfl, hb⟩
            have B5 := Lib.hid ((B4.out.setCell (p := ⟨g, k, none⟩) hgw (.int .u8 0)).trans (hb.mono (by have := B4.out.size; simp [World.setCell]; omega)))
            clear hb hcell hfz
            go_wp2_with (go_at_call 12; refine (works_calls _).mono ?_; rintro e w6 ⟨rfl, hb6⟩; have HB6 := Lib.hid hb6; clear hb6)
            go_ret
            exact ⟨rfl, B5.out.trans (HB6.out.mono B5.out.size)⟩
          · skip
            go_enter Try.func9, Try.ntmps9
            go_wp2_with (go_at_call 25; refine (HW.out _).mono ?_; rintro e w1 ⟨g, cap1, rfl, hgw, hc1, hc2, ho, hb⟩; have S := Lib.hid ((Sit.start0 w).born hb ho); clear hb ho)
            go_wp2_with (first
              | (go_at_call 27; refine (copyBytes_calls _ WL _ S.out.o0.byt (by have := hWl2.out; omega)).mono ?_; rintro e w2 ⟨v2, rfl, ho, hb⟩; replace S := Lib.hid ((S.out.born hb ho).alloc (.cells #[.int .u8 0] 5)); clear hb ho)
              | (at_builtin; (refine wpList_append_byt2 rfl _ _ rfl w.heap.size _ WL rfl S.out.o0 _ [c] rfl (Byt.one _ _ _ _ hxc.out) ?c1 ?c2 ?_)))
            case c1 => have := hWl2.out; simp; omega
            case c2 => exact S.out.bel.size
            intro v3 w3 hn3 hg3 _ _
            have B3 := Lib.hid (S.out.bel.grown hg3 S.out.bel.size (fun b hb => (Own.lt S.out.o0 b hb).1))
            have O3 := Lib.hid (Own.kept S.out.o1 hg3 (fun b hb => S.out.part 1 0 (by simp) (by simp) (by decide) b hb))
            have N3 := Lib.hid hn3
            clear hn3 hg3 S
            go_wp2_with fail
            refine (HN1.out _ _ N3.out.byt).mono ?_
            rintro e w4 ⟨rfl, hb⟩
            have B4 := Lib.hid (B3.out.trans (hb.mono B3.out.size))
            have O4 := Lib.hid (OwnB.below O3.out hb)
            have hcell := OwnB.cell_at O4.out k (by rw [← hWL.out]; exact hkL)
            rw [← hU.out] at hcell
            have hfz := OwnB.free O4.out (by omega) k
            have O5 := Lib.hid (OwnB.set O4.out k hkL c 0 hxc.out)
            clear hb
            go_wp2_with fail
            refine (HN2.out _ _ O5.out.byt).mono ?_
            rintro e w5 ⟨rfl, hb⟩
            have B5 := Lib.hid ((B4.out.setCell (p := ⟨g, k, none⟩) hgw (.int .u8 0)).trans (hb.mono (by have := B4.out.size; simp [World.setCell]; omega)))
            clear hb hcell hfz
            go_wp2_with (go_at_call 12; refine (works_calls _).mono ?_; rintro e w6 ⟨rfl, hb6⟩; have HB6 := Lib.hid hb6; clear hb6)
            go_ret
            exact ⟨rfl, B5.out.trans (HB6.out.mono B5.out.size)⟩
        · have hc0 : Hid (c ≠ 0) := Lib.hid (fun e => hx0 (by rw [hxc.out, e]; rfl))
          have HN2 : Hid (∀ v w, Byt w v (WL.set k c) → Calls Try.prog 23 #[v] w fun e w' => e = .returned (.tuple #[.string T2, .int .i64 9]) ∧ Below w.heap.size w w') := Lib.hid (fun v w h => by
            have := narrow_calls v (WL.set k c) w h (by have := hWl2.out; simp; omega)
            rw [← hT2.out, hWd.out, hj.out, HF.out, if_neg hc0.out] at this
            exact this)
          have hx02 : (x == 0) = false := by simpa using hx0
          have HX0 := Lib.hid hx0
          clear hx0
          rcases hkw.out with ⟨hp0, hk1⟩ | ⟨hp0, hk1⟩ | ⟨hp0, r, hk1, hr1, hr2, hk3⟩
          · skip
            go_enter Try.func9, Try.ntmps9
            go_wp2_with (go_at_call 25; refine (HW.out _).mono ?_; rintro e w1 ⟨g, cap1, rfl, hgw, hc1, hc2, ho, hb⟩; have S := Lib.hid ((Sit.start0 w).born hb ho); clear hb ho)
            go_wp2_with (first
              | (go_at_call 27; refine (copyBytes_calls _ WL _ S.out.o0.byt (by have := hWl2.out; omega)).mono ?_; rintro e w2 ⟨v2, rfl, ho, hb⟩; replace S := Lib.hid ((S.out.born hb ho).alloc (.cells #[.int .u8 x] 5)); clear hb ho)
              | (at_builtin; (refine wpList_append_byt2 rfl _ _ rfl w.heap.size _ WL rfl S.out.o0 _ [c] rfl (Byt.one _ _ _ _ hxc.out) ?c1 ?c2 ?_)))
            case c1 => have := hWl2.out; simp; omega
            case c2 => exact S.out.bel.size
            intro v3 w3 hn3 hg3 _ _
            have B3 := Lib.hid (S.out.bel.grown hg3 S.out.bel.size (fun b hb => (Own.lt S.out.o0 b hb).1))
            have O3 := Lib.hid (Own.kept S.out.o1 hg3 (fun b hb => S.out.part 1 0 (by simp) (by simp) (by decide) b hb))
            have N3 := Lib.hid hn3
            clear hn3 hg3 S
            go_wp2_with fail
            refine (HN1.out _ _ N3.out.byt).mono ?_
            rintro e w4 ⟨rfl, hb⟩
            have B4 := Lib.hid (B3.out.trans (hb.mono B3.out.size))
            have O4 := Lib.hid (OwnB.below O3.out hb)
            have hcell := OwnB.cell_at O4.out k (by rw [← hWL.out]; exact hkL)
            rw [← hU.out] at hcell
            have hfz := OwnB.free O4.out (by omega) k
            have O5 := Lib.hid (OwnB.set O4.out k hkL c x hxc.out)
            clear hb
            go_wp2_with fail
            refine (HN2.out _ _ O5.out.byt).mono ?_
            rintro e w5 ⟨rfl, hb⟩
            have B5 := Lib.hid ((B4.out.setCell (p := ⟨g, k, none⟩) hgw (.int .u8 x)).trans (hb.mono (by have := B4.out.size; simp [World.setCell]; omega)))
            clear hb hcell hfz
            go_wp2_with (go_at_call 12; refine (works_calls _).mono ?_; rintro e w6 ⟨rfl, hb6⟩; have HB6 := Lib.hid hb6; clear hb6)
            go_ret
            exact ⟨rfl, B5.out.trans (HB6.out.mono B5.out.size)⟩
          · skip
            go_enter Try.func9, Try.ntmps9
            go_wp2_with (go_at_call 25; refine (HW.out _).mono ?_; rintro e w1 ⟨g, cap1, rfl, hgw, hc1, hc2, ho, hb⟩; have S := Lib.hid ((Sit.start0 w).born hb ho); clear hb ho)
            go_wp2_with (first
              | (go_at_call 27; refine (copyBytes_calls _ WL _ S.out.o0.byt (by have := hWl2.out; omega)).mono ?_; rintro e w2 ⟨v2, rfl, ho, hb⟩; replace S := Lib.hid ((S.out.born hb ho).alloc (.cells #[.int .u8 x] 5)); clear hb ho)
              | (at_builtin; (refine wpList_append_byt2 rfl _ _ rfl w.heap.size _ WL rfl S.out.o0 _ [c] rfl (Byt.one _ _ _ _ hxc.out) ?c1 ?c2 ?_)))
            case c1 => have := hWl2.out; simp; omega
            case c2 => exact S.out.bel.size
            intro v3 w3 hn3 hg3 _ _
            have B3 := Lib.hid (S.out.bel.grown hg3 S.out.bel.size (fun b hb => (Own.lt S.out.o0 b hb).1))
            have O3 := Lib.hid (Own.kept S.out.o1 hg3 (fun b hb => S.out.part 1 0 (by simp) (by simp) (by decide) b hb))
            have N3 := Lib.hid hn3
            clear hn3 hg3 S
            go_wp2_with fail
            refine (HN1.out _ _ N3.out.byt).mono ?_
            rintro e w4 ⟨rfl, hb⟩
            have B4 := Lib.hid (B3.out.trans (hb.mono B3.out.size))
            have O4 := Lib.hid (OwnB.below O3.out hb)
            have hcell := OwnB.cell_at O4.out k (by rw [← hWL.out]; exact hkL)
            rw [← hU.out] at hcell
            have hfz := OwnB.free O4.out (by omega) k
            have O5 := Lib.hid (OwnB.set O4.out k hkL c x hxc.out)
            clear hb
            go_wp2_with fail
            refine (HN2.out _ _ O5.out.byt).mono ?_
            rintro e w5 ⟨rfl, hb⟩
            have B5 := Lib.hid ((B4.out.setCell (p := ⟨g, k, none⟩) hgw (.int .u8 x)).trans (hb.mono (by have := B4.out.size; simp [World.setCell]; omega)))
            clear hb hcell hfz
            go_wp2_with (go_at_call 12; refine (works_calls _).mono ?_; rintro e w6 ⟨rfl, hb6⟩; have HB6 := Lib.hid hb6; clear hb6)
            go_ret
            exact ⟨rfl, B5.out.trans (HB6.out.mono B5.out.size)⟩
          · skip
            go_enter Try.func9, Try.ntmps9
            go_wp2_with (go_at_call 25; refine (HW.out _).mono ?_; rintro e w1 ⟨g, cap1, rfl, hgw, hc1, hc2, ho, hb⟩; have S := Lib.hid ((Sit.start0 w).born hb ho); clear hb ho)
            go_wp2_with (first
              | (go_at_call 27; refine (copyBytes_calls _ WL _ S.out.o0.byt (by have := hWl2.out; omega)).mono ?_; rintro e w2 ⟨v2, rfl, ho, hb⟩; replace S := Lib.hid ((S.out.born hb ho).alloc (.cells #[.int .u8 x] 5)); clear hb ho)
              | (at_builtin; (refine wpList_append_byt2 rfl _ _ rfl w.heap.size _ WL rfl S.out.o0 _ [c] rfl (Byt.one _ _ _ _ hxc.out) ?c1 ?c2 ?_)))
            case c1 => have := hWl2.out; simp; omega
            case c2 => exact S.out.bel.size
            intro v3 w3 hn3 hg3 _ _
            have B3 := Lib.hid (S.out.bel.grown hg3 S.out.bel.size (fun b hb => (Own.lt S.out.o0 b hb).1))
            have O3 := Lib.hid (Own.kept S.out.o1 hg3 (fun b hb => S.out.part 1 0 (by simp) (by simp) (by decide) b hb))
            have N3 := Lib.hid hn3
            clear hn3 hg3 S
            go_wp2_with fail
            refine (HN1.out _ _ N3.out.byt).mono ?_
            rintro e w4 ⟨rfl, hb⟩
            have B4 := Lib.hid (B3.out.trans (hb.mono B3.out.size))
            have O4 := Lib.hid (OwnB.below O3.out hb)
            have hcell := OwnB.cell_at O4.out k (by rw [← hWL.out]; exact hkL)
            rw [← hU.out] at hcell
            have hfz := OwnB.free O4.out (by omega) k
            have O5 := Lib.hid (OwnB.set O4.out k hkL c x hxc.out)
            clear hb
            go_wp2_with fail
            refine (HN2.out _ _ O5.out.byt).mono ?_
            rintro e w5 ⟨rfl, hb⟩
            have B5 := Lib.hid ((B4.out.setCell (p := ⟨g, k, none⟩) hgw (.int .u8 x)).trans (hb.mono (by have := B4.out.size; simp [World.setCell]; omega)))
            clear hb hcell hfz
            go_wp2_with (go_at_call 12; refine (works_calls _).mono ?_; rintro e w6 ⟨rfl, hb6⟩; have HB6 := Lib.hid hb6; clear hb6)
            go_ret
            exact ⟨rfl, B5.out.trans (HB6.out.mono B5.out.size)⟩
    · have he : wideL t = [] := by
        by_cases hlet : t.all letB = true
        · have : t = [] := by
            cases t with
            | nil => rfl
            | cons a b => exact absurd ⟨hlet, by simp⟩ hall
          subst this
          rfl
        · exact wideL_none t (by simpa using hlet)
      have HW : Hid (∀ w, Calls Try.prog 25 #[.string s] w fun e w' => ∃ a c, e = .returned (.slice a 0 c) ∧ Below w.heap.size w w') := Lib.hid (fun w => (HW0.out w).mono (by
        rintro e w' ⟨v', rfl, ho, hb⟩
        rw [he] at ho
        obtain ⟨a, c, e1, _, _⟩ := Own.shape ho
        exact ⟨a, c, by rw [e1]; rfl, hb⟩))
      clear he hall
      go_enter Try.func9, Try.ntmps9
      go_wp2_with (first
        | (go_at_call 25; refine (HW.out _).mono ?_; rintro e w1 ⟨a1, c1, rfl, hb1⟩; have HB1 := Lib.hid hb1; clear hb1)
        | (go_at_call 12; refine (works_calls _).mono ?_; rintro e w6 ⟨rfl, hb6⟩; have HB6 := Lib.hid hb6; clear hb6))
      go_ret
      exact ⟨rfl, HB1.out.trans (HB6.out.mono HB1.out.size)⟩
end Go.Proofs.Ytookmdkcpbpofaa
