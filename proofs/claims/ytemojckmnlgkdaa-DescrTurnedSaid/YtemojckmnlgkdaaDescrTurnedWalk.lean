/-
  The walk of the law DescrTurned.
-/
import Derived.Test.YtemojckmnlgkdaaDsWorks
import Derived.Test.YtemojckmnlgkdaaSit
import Derived.Test.YtemojckmnlgkdaaOpenTm
namespace Go.Proofs.Ytemojckmnlgkdaa
open Go Go.RowKit
set_option linter.unusedVariables false

theorem ds_same (t : Tm) (b d : List UInt8) (k : Nat) : (dsW t b d).set k ((dsW t b d).getD k 0 ^^^ 0) = dsW t b d := by
  rw [UInt8.xor_zero]
  apply List.ext_getElem?
  intro i
  by_cases h : k = i
  · subst h
    by_cases hk : k < (dsW t b d).length
    · rw [List.getElem?_set_self hk]; simp [List.getD, hk]
    · rw [List.getElem?_eq_none (by rw [List.length_set]; omega), List.getElem?_eq_none (by omega)]
  · rw [List.getElem?_set_ne h]
theorem xor_ne (x c : UInt8) (hc : c ≠ 0) : x ^^^ c ≠ x := by
  intro h
  have := congrArg (fun z => x ^^^ z) h
  simp only [← UInt8.xor_assoc, UInt8.xor_self, UInt8.zero_xor] at this
  exact hc this
/-- Read of bytes of which one of the twenty is turned. -/
theorem ds_xor (t : Tm) (ht : t.Fit) (b d : List UInt8) (h : dsB t b.length = true) (r : Nat) (hr : r < 20) (c : UInt8) : resE ((dsW t b d).set (20 + r) ((dsW t b d).getD (20 + r) 0 ^^^ c)) = if c = 0 then 0 else 9 := by
  by_cases hc : c = 0
  · subst hc
    rw [if_pos rfl, ds_same]
    exact (res_yes _ (dsR_W t ht b d h).1).2.2.2
  · rw [if_neg hc]
    refine (res_no _ (ds_turned t ht b d r hr _ ?_)).2.2.2
    rw [ds_byte t b d r hr]
    exact xor_ne _ _ hc
theorem twin_head (v : Value) (l : List UInt8) (W : World) (h : Byt W v l) (hl : l.length ≤ 140737488355328) (h0 : 0 < l.length) :
    Calls Try.prog 8 #[v] W fun e w' => ∃ g c, e = .returned (.slice (some ⟨g, 0, none⟩) l.length c) ∧ W.heap.size ≤ g ∧ g < w'.heap.size ∧ l.length ≤ c ∧ c ≤ 9223372036854775807 ∧ OwnB w' W.heap.size (.slice (some ⟨g, 0, none⟩) l.length c) l ∧ Below W.heap.size W w' :=
  (twin_calls v l W h hl).mono fun e w' ⟨v', he, ho, hb⟩ => by
    obtain ⟨g, c, rfl, h1, h2, _, h4, h5⟩ := Own.head ho h0
    unfold maxLen at h5
    exact ⟨g, c, he, h1, h2, h4, by omega, ho, hb⟩
theorem byt_head' {w : World} {a : Option Addr} {len cap q : Nat} {l : List UInt8} (h : Byt w (.slice a len cap) l) (hlen : len = l.length) (hq : q ≤ len) (x : Int) (hx : x = (q : Int)) :
    (∀ W : World, (Instr.sliceAt 22 (.slice a len cap) none (some (.int .i64 x)) none).run Try.prog W = .ok (.slice a q cap) W) ∧ Byt w (.slice a q cap) (l.take q) := by
  subst hx
  exact byt_head h hlen hq

set_option maxRecDepth 100000 in
set_option maxHeartbeats 4000000 in
theorem descrTurned_big1 (t : Tm) (p : Value) (b : List UInt8) (q : Value) (d : List UInt8) (ta tb tc : Int) (w : World) (ht : t.Fit) (hp : Byt w p b) (hq : Byt w q d) (ha : (Lit.int .u8 ta).wf = true) (hb : (Lit.int .u8 tb).wf = true) (hc : (Lit.int .u16 tc).wf = true) (h2 : 4096 < b.length) :
    Calls Try.prog 5 #[tmV t, p, q, .int .u8 ta, .int .u8 tb, .int .u16 tc] w fun e w' => e = .returned (.bool true) ∧ Below w.heap.size w w' := by
  have HP := Lib.hid hp
  obtain ⟨xp, cp, rfl, hp1, hp2⟩ := hp.shut
  clear hp
  obtain ⟨np, hnp⟩ : ∃ n, Hid (n = b.length) := ⟨_, Lib.hid rfl⟩
  rw [← hnp.out] at HP hp1 ⊢
  have HD := Lib.hid hq
  obtain ⟨xd, cd, rfl, hq1, hq2⟩ := hq.shut
  clear hq
  obtain ⟨nd, hnd⟩ : ∃ n, Hid (n = d.length) := ⟨_, Lib.hid rfl⟩
  rw [← hnd.out] at HD hq1 ⊢
  have d2 : decide ((4096 : Int) < (np : Int)) = true := by have := hnp.out; simp; omega
  obtain ⟨y, mo, dd, hh, mi, se⟩ := t
  unfold tmV
  simp only
  have HB_0 := Lib.hid (Below.refl w.heap.size w)
  have HB_1 := Lib.hid (HB_0.out.alloc HB_0.out.size (.cells #[.int .u16 y, .int .u8 mo, .int .u8 dd, .int .u8 hh, .int .u8 mi, .int .u8 se] 25))
  have RT_1 := Lib.hid (RowAt.new w #[.int .u16 y, .int .u8 mo, .int .u8 dd, .int .u8 hh, .int .u8 mi, .int .u8 se] 25 (w.heap.size) (by first | rfl | simp))
  go_enter Try.func5, Try.ntmps5
  go_wp2_with fail
  refine (works_calls _).mono ?_
  rintro e wz ⟨rfl, hb⟩
  have HBz := Lib.hid (HB_1.out.trans (hb.mono HB_1.out.size))
  clear hb
  go_wp2
  go_ret
  exact ⟨rfl, HBz.out⟩

set_option maxRecDepth 100000 in
set_option maxHeartbeats 4000000 in
theorem descrTurned_big2 (t : Tm) (p : Value) (b : List UInt8) (q : Value) (d : List UInt8) (ta tb tc : Int) (w : World) (ht : t.Fit) (hp : Byt w p b) (hq : Byt w q d) (ha : (Lit.int .u8 ta).wf = true) (hb : (Lit.int .u8 tb).wf = true) (hc : (Lit.int .u16 tc).wf = true) (h2 : b.length ≤ 4096) (h3 : 4096 < d.length) :
    Calls Try.prog 5 #[tmV t, p, q, .int .u8 ta, .int .u8 tb, .int .u16 tc] w fun e w' => e = .returned (.bool true) ∧ Below w.heap.size w w' := by
  have HP := Lib.hid hp
  obtain ⟨xp, cp, rfl, hp1, hp2⟩ := hp.shut
  clear hp
  obtain ⟨np, hnp⟩ : ∃ n, Hid (n = b.length) := ⟨_, Lib.hid rfl⟩
  rw [← hnp.out] at HP hp1 ⊢
  have HD := Lib.hid hq
  obtain ⟨xd, cd, rfl, hq1, hq2⟩ := hq.shut
  clear hq
  obtain ⟨nd, hnd⟩ : ∃ n, Hid (n = d.length) := ⟨_, Lib.hid rfl⟩
  rw [← hnd.out] at HD hq1 ⊢
  have d2 : decide ((4096 : Int) < (np : Int)) = false := by have := hnp.out; simp; omega
  have d3 : decide ((4096 : Int) < (nd : Int)) = true := by have := hnd.out; simp; omega
  obtain ⟨y, mo, dd, hh, mi, se⟩ := t
  unfold tmV
  simp only
  have HB_0 := Lib.hid (Below.refl w.heap.size w)
  have HB_1 := Lib.hid (HB_0.out.alloc HB_0.out.size (.cells #[.int .u16 y, .int .u8 mo, .int .u8 dd, .int .u8 hh, .int .u8 mi, .int .u8 se] 25))
  have RT_1 := Lib.hid (RowAt.new w #[.int .u16 y, .int .u8 mo, .int .u8 dd, .int .u8 hh, .int .u8 mi, .int .u8 se] 25 (w.heap.size) (by first | rfl | simp))
  go_enter Try.func5, Try.ntmps5
  go_wp2_with fail
  refine (works_calls _).mono ?_
  rintro e wz ⟨rfl, hb⟩
  have HBz := Lib.hid (HB_1.out.trans (hb.mono HB_1.out.size))
  clear hb
  go_wp2
  go_ret
  exact ⟨rfl, HBz.out⟩

set_option maxRecDepth 100000 in
set_option maxHeartbeats 4000000 in
theorem descrTurned_main (t : Tm) (p : Value) (b : List UInt8) (q : Value) (d : List UInt8) (ta tb tc : Int) (w : World) (ht : t.Fit) (hp : Byt w p b) (hq : Byt w q d) (ha : (Lit.int .u8 ta).wf = true) (hb : (Lit.int .u8 tb).wf = true) (hc : (Lit.int .u16 tc).wf = true) (h2 : b.length ≤ 4096) (h3 : d.length ≤ 4096) :
    Calls Try.prog 5 #[tmV t, p, q, .int .u8 ta, .int .u8 tb, .int .u16 tc] w fun e w' => e = .returned (.bool true) ∧ Below w.heap.size w w' := by
  have HP := Lib.hid hp
  obtain ⟨xp, cp, rfl, hp1, hp2⟩ := hp.shut
  clear hp
  obtain ⟨np, hnp⟩ : ∃ n, Hid (n = b.length) := ⟨_, Lib.hid rfl⟩
  rw [← hnp.out] at HP hp1 ⊢
  have HD := Lib.hid hq
  obtain ⟨xd, cd, rfl, hq1, hq2⟩ := hq.shut
  clear hq
  obtain ⟨nd, hnd⟩ : ∃ n, Hid (n = d.length) := ⟨_, Lib.hid rfl⟩
  rw [← hnd.out] at HD hq1 ⊢
  have ha1 := bounds_u8 ha
  have hb1 := bounds_u8 hb
  have hc1 := bounds_u16 hc
  clear ha hb hc
  have hnp4 : np ≤ 4096 := by have := hnp.out; omega
  have hnd4 : nd ≤ 4096 := by have := hnd.out; omega
  have d2 : decide ((4096 : Int) < (np : Int)) = false := by have := hnp.out; simp; omega
  have d3 : decide ((4096 : Int) < (nd : Int)) = false := by have := hnd.out; simp; omega
  obtain ⟨Fw, hFw⟩ : ∃ F, Hid (F = wrR t b d) := ⟨_, Lib.hid rfl⟩
  obtain ⟨E, hE⟩ : ∃ E, Hid (E = wrE t b.length) := ⟨_, Lib.hid rfl⟩
  obtain ⟨n, hn⟩ : ∃ n, Hid (n = Fw.length) := ⟨_, Lib.hid rfl⟩
  have HWR := Lib.hid (fun p' q' W (h1 : Byt W p' b) (h2 : Byt W q' d) => write_form (dsWrite_calls t ht p' q' b d W h1 h2 (by omega) (by omega)) Fw hFw.out E hE.out n hn.out)
  have HNB : Hid (n ≤ 10000) := Lib.hid (by
    rw [hn.out, hFw.out]
    unfold wrR
    split
    · rw [dsW_length]; omega
    · simp)
  obtain ⟨c8, hc8⟩ : ∃ c : UInt8, Hid (tb = (c.toNat : Int)) := ⟨UInt8.ofNat tb.toNat, Lib.hid (by rw [UInt8.toNat_ofNat']; omega)⟩
  obtain ⟨r, hr⟩ : ∃ r : Nat, Hid ((r : Int) = ta % 20) := ⟨(ta % 20).toNat, Lib.hid (by omega)⟩
  have hr20 : r < 20 := by have := hr.out; omega
  obtain ⟨m, hm⟩ : ∃ m : Nat, Hid ((m : Int) = tc % ((n : Int) + 1)) := ⟨(tc % ((n : Int) + 1)).toNat, Lib.hid (by have := Int.emod_nonneg tc (show (n : Int) + 1 ≠ 0 by omega); omega)⟩
  have hmn : m ≤ n := by have := hm.out; have := Int.emod_lt_of_pos tc (show (0 : Int) < (n : Int) + 1 by omega); omega
  have hke : 20 + ta % 20 = ((20 + r : Nat) : Int) := by have := hr.out; omega
  have hke2 : 20 + ta.tmod 20 = ((20 + r : Nat) : Int) := by rw [Int.tmod_eq_emod_of_nonneg (by omega)]; exact hke
  have hme : tc % ((n : Int) + 1) = (m : Int) := hm.out.symm
  have hme2 : tc.tmod ((n : Int) + 1) = (m : Int) := by rw [Int.tmod_eq_emod_of_nonneg (by omega)]; exact hme
  obtain ⟨kk, hkk⟩ : ∃ kk : Nat, Hid (kk = 20 + r) := ⟨_, Lib.hid rfl⟩
  have hkk40 : kk < 40 := by have := hkk.out; omega
  rw [← hkk.out] at hke hke2
  obtain ⟨z8, hz8⟩ : ∃ z : UInt8, Hid (z = Fw.getD kk 0 ^^^ c8) := ⟨_, Lib.hid rfl⟩
  obtain ⟨f, hf⟩ : ∃ f : Int, Hid (f = ((Fw.getD kk 0).toNat : Int)) := ⟨_, Lib.hid rfl⟩
  obtain ⟨z, hz⟩ : ∃ z : Int, Hid (z = (z8.toNat : Int)) := ⟨_, Lib.hid rfl⟩
  have hxor : bits .xor .u8 f tb = z := by rw [hf.out, hc8.out, hz.out, hz8.out]; exact bits_xor8 _ _
  obtain ⟨ZB, hZB⟩ : ∃ B : Bool, Hid (B = decide (tb = 0)) := ⟨_, Lib.hid rfl⟩
  have hzb : (tb == 0) = ZB := by rw [hZB.out]; rfl
  obtain ⟨E5, hE5⟩ : ∃ E : Int, Hid (E = resE (Fw.set kk z8)) := ⟨_, Lib.hid rfl⟩
  have HF : Hid (dsB t b.length = true → Fw = dsW t b d ∧ E = 0 ∧ n = 40 + np + nd) := Lib.hid (fun h => by
    have h2 := wr_yes t b d h
    exact ⟨hFw.out.trans h2.1, hE.out.trans h2.2, by rw [hn.out, hFw.out, h2.1, dsW_length, hnp.out, hnd.out]⟩)
  have HFN : Hid (dsB t b.length = false → n = 0 ∧ E = 1) := Lib.hid (fun h => by
    have h2 := wr_no t b d h
    exact ⟨by rw [hn.out, hFw.out, h2.1]; rfl, hE.out.trans h2.2⟩)
  have HE5 : Hid (dsB t b.length = true → (E5 == 0) = ZB) := Lib.hid (fun h => by
    have h2 := ds_xor t ht b d h r hr20 c8
    rw [hE5.out, hz8.out, ((HF.out h).1), hkk.out, h2, hZB.out]
    by_cases hc : c8 = 0
    · rw [if_pos hc, decide_eq_true (by rw [hc8.out, hc]; rfl)]; rfl
    · rw [if_neg hc, decide_eq_false (fun e => hc (UInt8.toNat_inj.1 (by have := hc8.out; show c8.toNat = 0; omega)))]; rfl)
  have HR5 : Hid (∀ v W, Byt W v (Fw.set kk z8) → Calls Try.prog 9 #[v] W fun e w' => (∃ a0 a1 a2, e = .returned (.tuple #[a0, a1, a2, .int .i64 E5])) ∧ Below W.heap.size W w') := Lib.hid (fun v W h => by
    refine (dsRead_calls v _ W h (by rw [List.length_set, ← hn.out]; have := HNB.out; omega)).mono ?_
    rintro e w' ⟨p', d', he, _, _, hb⟩
    exact ⟨⟨_, _, _, by rw [hE5.out]; exact he⟩, hb⟩)
  have HTW : Hid (40 ≤ n → ∀ v W, Byt W v Fw → Calls Try.prog 8 #[v] W fun e w' => ∃ g c, e = .returned (.slice (some ⟨g, 0, none⟩) n c) ∧ W.heap.size ≤ g ∧ g < w'.heap.size ∧ n ≤ c ∧ c ≤ 9223372036854775807 ∧ OwnB w' W.heap.size (.slice (some ⟨g, 0, none⟩) n c) Fw ∧ Below W.heap.size W w') := Lib.hid (fun h v W hv => by
    have := twin_head v Fw W hv (by rw [← hn.out]; have := HNB.out; omega) (by rw [← hn.out]; omega)
    rw [← hn.out] at this
    exact this)
  have HRN : Hid (dsB t b.length = true → m < 40 + np → ∀ v W, Byt W v (Fw.take m) → Calls Try.prog 9 #[v] W fun e w' => ∃ x1 c1 x2 c2, e = .returned (.tuple #[(.agg #[.int .u16 0, .int .u8 0, .int .u8 0, .int .u8 0, .int .u8 0, .int .u8 0]), .slice x1 0 c1, .slice x2 0 c2, .int .i64 9]) ∧ OwnB w' W.heap.size (.slice x1 0 c1) [] ∧ OwnB w' W.heap.size (.slice x2 0 c2) [] ∧ Below W.heap.size W w') := Lib.hid (fun h hmm v W hv => by
    have hno := ds_cut_no t ht b d (by omega) m (by rw [← hnp.out]; omega)
    rw [← (HF.out h).1] at hno
    obtain ⟨r1, r2, r3, r4⟩ := res_no _ hno
    exact read_form (dsRead_calls v _ W hv (by have := List.length_take_le m Fw; have := HNB.out; omega)) tm0 r1.symm [] r2.symm [] r3.symm 9 r4.symm 0 0 rfl rfl)
  have HRY : Hid (dsB t b.length = true → 40 + np ≤ m → ∀ j, j = m - 40 - np → ∀ v W, Byt W v (Fw.take m) → Calls Try.prog 9 #[v] W fun e w' => ∃ x1 c1 x2 c2, e = .returned (.tuple #[tmV t, .slice x1 np c1, .slice x2 j c2, .int .i64 0]) ∧ OwnB w' W.heap.size (.slice x1 np c1) b ∧ OwnB w' W.heap.size (.slice x2 j c2) (d.take j) ∧ Below W.heap.size W w') := Lib.hid (fun h hmm j hj v W hv => by
    have hy := ds_cut_yes t b d m (by rw [← hnp.out]; omega)
    rw [← (HF.out h).1, ← hnp.out, ← hj] at hy
    rw [hy] at hv
    obtain ⟨r1, r2, r3, r4⟩ := wrR_read t ht b (d.take j) h
    exact read_form (dsRead_calls v _ W hv (by rw [dsW_length, List.length_take]; have := Nat.min_le_right j d.length; omega)) t r1.symm _ r2.symm _ r3.symm 0 r4.symm np j hnp.out (by rw [List.length_take, Nat.min_eq_left]; have h5 := (HF.out h).2.2; have := hnd.out; omega))
  have HEQ := Lib.hid (fun W => run_tm_eq t t W)
  have HETT : Hid (eqT t t = true) := Lib.hid ((eqT_iff t t).2 rfl)
  have HEZ : Hid (∀ W : World, (binOp .eql 25 (.agg #[.int .u16 0, .int .u8 0, .int .u8 0, .int .u8 0, .int .u8 0, .int .u8 0]) (.agg #[.int .u16 0, .int .u8 0, .int .u8 0, .int .u8 0, .int .u8 0, .int .u8 0])).run Try.prog W = .ok (.bool true) W) := Lib.hid (fun W => run_tm_eq tm0 tm0 W)
  have HDB : Hid (b.length ≤ 262144 ∧ d.length ≤ 262144) := Lib.hid ⟨by omega, by omega⟩
  clear h2 h3
  rw [HETT.out] at HEQ
  obtain ⟨BB, hBB⟩ : ∃ B, Hid (dsB t b.length = B) := ⟨_, Lib.hid rfl⟩
  rw [hBB.out] at HF HFN HE5 HRN HRY
  obtain ⟨y, mo, dd, hh, mi, se⟩ := t
  unfold tmV at HWR HRY HEQ ⊢
  simp only at HWR HRY HEQ ⊢
  have HB_0 := Lib.hid (Below.refl w.heap.size w)
  have HB_1 := Lib.hid (HB_0.out.alloc HB_0.out.size (.cells #[.int .u16 y, .int .u8 mo, .int .u8 dd, .int .u8 hh, .int .u8 mi, .int .u8 se] 25))
  have P_1 := Lib.hid (Byt.below HP.out ((Below.refl _ _).alloc (Nat.le_refl _) (.cells #[.int .u16 y, .int .u8 mo, .int .u8 dd, .int .u8 hh, .int .u8 mi, .int .u8 se] 25)))
  have Q_1 := Lib.hid (Byt.below HD.out ((Below.refl _ _).alloc (Nat.le_refl _) (.cells #[.int .u16 y, .int .u8 mo, .int .u8 dd, .int .u8 hh, .int .u8 mi, .int .u8 se] 25)))
  have RT_1 := Lib.hid (RowAt.new w #[.int .u16 y, .int .u8 mo, .int .u8 dd, .int .u8 hh, .int .u8 mi, .int .u8 se] 25 (w.heap.size) (by first | rfl | simp))
  have HKE := Lib.hid (And.intro hke hke2)
  have HME := Lib.hid (And.intro hme hme2)
  have HXO := Lib.hid (And.intro hxor hzb)
  clear hke hke2 hme hme2 hxor hzb hr20
  go_enter Try.func5, Try.ntmps5
  go_wp2_with fail
  refine' wp_region_grows (by kernel_rfl) (fun w' => Hid (RowAt w' w.heap.size #[.int .u16 y, .int .u8 mo, .int .u8 dd, .int .u8 hh, .int .u8 mi, .int .u8 se]) ∧ Hid (Below w.heap.size w w') ∧ Hid (Byt w' (.slice xp np cp) b) ∧ Hid (Byt w' (.slice xd nd cd) d)) [isV _, isV _, fun v w' => Byt w' v b, isV _, fun v w' => Byt w' v d, fun v w' => ∃ x c, v = .tuple #[.slice x n c, .int .i64 E] ∧ OwnB w' w.heap.size (.slice x n c) Fw, fun v w' => ∃ x c, v = .tuple #[.slice x n c, .int .i64 E] ∧ OwnB w' w.heap.size (.slice x n c) Fw, fun v w' => ∃ x c, v = .slice x n c ∧ OwnB w' w.heap.size (.slice x n c) Fw, isV (.int .i64 E), fun v w' => ∃ x c, v = .slice x n c ∧ OwnB w' w.heap.size (.slice x n c) Fw, isV (.int .i64 E)] 139 [[], [], [(1, some 32)], [], [(3, some 34)], [(0, some 31), (2, some 33), (4, some 35)], [(5, some 36)], [(6, some 30)], [(6, some 30)], [(7, some 37)], [(8, some 38)]] [(0, some 31), (1, some 32), (2, some 33), (3, some 34), (4, some 35), (5, some 36), (6, some 30), (7, some 37), (8, some 38), (9, some 13), (10, some 14)] rfl (by kernel_rfl) ⟨fun _ _ _ _ h => h, fun _ _ _ _ h => h, fun _ _ _ hg h => Byt.below h hg, fun _ _ _ _ h => h, fun _ _ _ hg h => Byt.below h hg, fun _ _ _ hg ⟨x, c, e, h⟩ => ⟨x, c, e, OwnB.below h hg⟩, fun _ _ _ hg ⟨x, c, e, h⟩ => ⟨x, c, e, OwnB.below h hg⟩, fun _ _ _ hg ⟨x, c, e, h⟩ => ⟨x, c, e, OwnB.below h hg⟩, fun _ _ _ _ h => h, fun _ _ _ hg ⟨x, c, e, h⟩ => ⟨x, c, e, OwnB.below h hg⟩, fun _ _ _ _ h => h, trivial⟩ (fun _ a a' _ e h => by cases a; cases a'; cases e; exact h) ?hS ?hsteps ?hend
  case hS =>
    intro w' hg
    exact ⟨Lib.hid ((RT_1.out.drew).below hg), Lib.hid (HB_1.out.drew.trans (hg.mono HB_1.out.size)), Lib.hid ((P_1.out.below (Below.refl _ _).drew).below hg), Lib.hid ((Q_1.out.below (Below.refl _ _).drew).below hg)⟩
  case hsteps =>
    refine ⟨?_, ?_, ?_, ?_, ?_, ?_, ?_, ?_, ?_, ?_, ?_, trivial⟩
    · -- 0: Op.load 25 t6
      intro w' hs
      simp only [AllV, rgPut]
      obtain ⟨hrow, hbb, hp, hq⟩ := hs
      have r0 := hrow.out.cell 0 (.int .u16 y) rfl
      have r1 := hrow.out.cell 1 (.int .u8 mo) rfl
      have r2 := hrow.out.cell 2 (.int .u8 dd) rfl
      have r3 := hrow.out.cell 3 (.int .u8 hh) rfl
      have r4 := hrow.out.cell 4 (.int .u8 mi) rfl
      have r5 := hrow.out.cell 5 (.int .u8 se) rfl
      have rz := hrow.out.lt
      refine OpOk.run ?_ (fun K hK => ?_)
      · rfl
      go_simp
      refine hK.out _ _ (Grows.refl _) ?_
      exact rfl
    · intro w' hs
      simp only [AllV, rgPut]
      clear hs
      first
        | (refine OpOk.off ?_ ?_ <;> rfl)
        | (refine OpOk.run ?_ (fun K hK => ?_)
           · rfl
           go_simp
           refine hK.out _ _ (Grows.refl _) ?_
           exact rfl)
    · intro w' hs
      simp only [AllV, rdP, isV, forall_eq, rgPut, Act.put, List.setIfInBounds_toArray, List.set_cons_zero, List.set_cons_succ]
      obtain ⟨hrow, hbb, hp, hq⟩ := hs
      first
        | (refine OpOk.off ?_ ?_ <;> rfl)
        | (refine OpOk.run ?_ (fun K hK => ?_)
           · rfl
           go_simp
           go_at_call 8
           refine (twin_calls _ _ _ hp.out (by have := HDB.out; omega)).mono ?_
           rintro e w1 ⟨v1, rfl, ho, hb⟩
           refine hK.out _ _ hb ?_
           exact ho.byt
          )
    · intro w' hs
      simp only [AllV, rgPut]
      clear hs
      first
        | (refine OpOk.off ?_ ?_ <;> rfl)
        | (refine OpOk.run ?_ (fun K hK => ?_)
           · rfl
           go_simp
           refine hK.out _ _ (Grows.refl _) ?_
           exact rfl)
    · intro w' hs
      simp only [AllV, rdP, isV, forall_eq, rgPut, Act.put, List.setIfInBounds_toArray, List.set_cons_zero, List.set_cons_succ]
      obtain ⟨hrow, hbb, hp, hq⟩ := hs
      first
        | (refine OpOk.off ?_ ?_ <;> rfl)
        | (refine OpOk.run ?_ (fun K hK => ?_)
           · rfl
           go_simp
           go_at_call 8
           refine (twin_calls _ _ _ hq.out (by have := HDB.out; omega)).mono ?_
           rintro e w1 ⟨v1, rfl, ho, hb⟩
           refine hK.out _ _ hb ?_
           exact ho.byt
          )
    · -- 5: Op.call { value (Operand.func 12), args := #[t31, t33, t35],
      intro w' hs
      simp only [AllV, rdP, rgPut, Act.put, List.setIfInBounds_toArray, List.set_cons_zero, List.set_cons_succ]
      obtain ⟨hrow, hbb, hp, hq⟩ := hs
      intro v0 e0
      cases e0
      intro v1 h1 v2 h2
      refine OpOk.run ?_ (fun K hK => ?_)
      · rfl
      go_simp
      go_at_call 12
      refine (HWR.out _ _ _ h1 h2).mono ?_
      rintro e w1 ⟨x, c, rfl, ho, hb⟩
      refine hK.out _ _ hb ?_
      exact ⟨x, c, rfl, ho.mono hbb.out.size⟩
    · -- 6: Op.move t36
      intro w' hs
      simp only [AllV, rdP, rgPut, Act.put, List.setIfInBounds_toArray, List.set_cons_zero, List.set_cons_succ]
      intro v hv
      refine OpOk.run ?_ (fun K hK => ?_)
      · rfl
      go_simp
      refine hK.out _ _ (Grows.refl _) ?_
      exact hv
    · -- 7: Op.extract t30 0
      intro w' hs
      simp only [AllV, rdP, rgPut, Act.put, List.setIfInBounds_toArray, List.set_cons_zero, List.set_cons_succ]
      rintro v ⟨x, c, rfl, ho⟩
      refine OpOk.run ?_ (fun K hK => ?_)
      · rfl
      go_simp
      refine hK.out _ _ (Grows.refl _) ?_
      exact ⟨x, c, rfl, ho⟩
    · -- 8: Op.extract t30 1
      intro w' hs
      simp only [AllV, rdP, rgPut, Act.put, List.setIfInBounds_toArray, List.set_cons_zero, List.set_cons_succ]
      rintro v ⟨x, c, rfl, ho⟩
      refine OpOk.run ?_ (fun K hK => ?_)
      · rfl
      go_simp
      refine hK.out _ _ (Grows.refl _) ?_
      exact rfl
    · -- 9: Op.assign t37
      intro w' hs
      simp only [AllV, rdP, rgPut, Act.put, List.setIfInBounds_toArray, List.set_cons_zero, List.set_cons_succ]
      intro v hv
      refine OpOk.run ?_ (fun K hK => ?_)
      · rfl
      go_simp
      refine hK.out _ _ (Grows.refl _) ?_
      exact hv
    · -- 10: Op.assign t38
      intro w' hs
      simp only [AllV, rdP, rgPut, Act.put, List.setIfInBounds_toArray, List.set_cons_zero, List.set_cons_succ]
      intro v hv
      refine OpOk.run ?_ (fun K hK => ?_)
      · rfl
      go_simp
      refine hK.out _ _ (Grows.refl _) ?_
      exact hv
  case hend =>
    intro w' hs
    simp only [AllV, rdP, rgPut, Act.put, List.setIfInBounds_toArray, List.set_cons_zero, List.set_cons_succ]
    intro a0 b0 a1 b1 a2 b2 a3 b3 a4 b4 a5 b5 a6 b6 a7 b7 a8 b8 a9 b9 a10 b10
    clear b0 b1 b2 b3 b4 b5 b6 b7 b8
    obtain ⟨xw, cw, rfl, hw⟩ := b9
    cases b10
    obtain ⟨hrow, hbb, hp, hq⟩ := hs
    have HB_2 := hbb
    have RT_2 := hrow
    have P_2 := hp
    have Q_2 := hq
    have OW_2 := Lib.hid hw
    clear hbb hrow hp hq hw
    cases BB
    · have hz := HFN.out rfl
      obtain ⟨hz1, hz2⟩ := hz
      clear hz1
      subst hz2
      go_wp2_with fail
      refine (works_calls _).mono ?_
      rintro e wz ⟨rfl, hb⟩
      have HBz := Lib.hid (HB_2.out.trans (hb.mono HB_2.out.size))
      clear hb
      go_wp2
      go_ret
      exact ⟨rfl, HBz.out⟩
    have HE5q := Lib.hid (HE5.out rfl)
    have HRNq := Lib.hid (HRN.out rfl)
    have HRYq := Lib.hid (HRY.out rfl)
    have hz := HF.out rfl
    obtain ⟨hz1, hz2, hz3⟩ := hz
    subst hz2
    have hn40 : decide ((n : Int) < 40) = false := by simp; omega
    have hn4 : 40 ≤ n := by omega
    have HZ3 := Lib.hid hz3
    clear hz1 hz3
    have htw := HTW.out hn4 _ _ (OwnB.byt OW_2.out)
    go_wp2_with fail
    refine htw.mono ?_
    clear htw
    rintro e w3 ⟨g, c, rfl, hg1, hg2, hg3, hg4, ho, hb⟩
    have hcl := OwnB.cell_at ho kk (by rw [← hn.out]; omega)
    rw [← hf.out] at hcl
    have hfz := OwnB.free ho (by omega) kk
    have HS := Lib.hid (OwnB.set ho kk (by omega) z8 z hz.out)
    have hb2 := hb.setCell (p := ⟨g, kk, none⟩) (by show _ ≤ g; omega) (.int .u8 z)
    have HB_3 := Lib.hid (HB_2.out.trans (hb2.mono HB_2.out.size))
    have RT_3 := Lib.hid (RowAt.below RT_2.out hb2)
    have P_3 := Lib.hid (Byt.below P_2.out hb2)
    have Q_3 := Lib.hid (Byt.below Q_2.out hb2)
    have OW_3 := Lib.hid (OwnB.below OW_2.out hb2)
    have hke := HKE.out.1
    have hke2 := HKE.out.2
    have hxor := HXO.out.1
    clear hb hb2 ho
    have SB_3 := Lib.hid (HS.out.byt)
    have hkn : kk < n := by omega
    have hkn2 : (kk : Int) < (n : Int) := by omega
    go_wp2_with fail
    refine (HR5.out _ _ SB_3.out).mono ?_
    rintro e w4 ⟨⟨a0, a1, a2, rfl⟩, hb⟩
    have HB_4 := Lib.hid (HB_3.out.trans (hb.mono HB_3.out.size))
    have RT_4 := Lib.hid (RowAt.below RT_3.out hb)
    have P_4 := Lib.hid (Byt.below P_3.out hb)
    have Q_4 := Lib.hid (Byt.below Q_3.out hb)
    have OW_4 := Lib.hid (OwnB.below OW_3.out hb)
    clear hb hcl hfz hke hke2 hxor hkn hkn2
    have he5 := HE5q.out
    have hzb := HXO.out.2
    have hme := HME.out.1
    have hme2 := HME.out.2
    have hh1 := byt_head' OW_4.out.byt hn.out hmn (m : Int) rfl
    have hsl := hh1.1
    have HHD := Lib.hid hh1.2
    clear hh1
    have hnn := HNB.out
    go_wp2_with fail
    refine (twin_calls _ _ _ HHD.out (by have := List.length_take_le m Fw; have := HNB.out; omega)).mono ?_
    rintro e w5 ⟨v6, rfl, ho, hb⟩
    have HB_5 := Lib.hid (HB_4.out.trans (hb.mono HB_4.out.size))
    have RT_5 := Lib.hid (RowAt.below RT_4.out hb)
    have P_5 := Lib.hid (Byt.below P_4.out hb)
    have Q_5 := Lib.hid (Byt.below Q_4.out hb)
    have O6 := Lib.hid ho.byt
    clear ho
    clear hb he5 hzb hme hme2 hsl hnn
    by_cases hmm : m < 40 + np
    · have hlt : decide ((m : Int) < 40 + (np : Int)) = true := by simp; omega
      have hrn := HRNq.out hmm
      go_wp2_with fail
      refine (hrn _ _ O6.out).mono ?_
      rintro e w6 ⟨x7, c7, x8, c8', rfl, h7, h8, hb⟩
      have HB_6 := Lib.hid (HB_5.out.trans (hb.mono HB_5.out.size))
      have RT_6 := Lib.hid (RowAt.below RT_5.out hb)
      have P_6 := Lib.hid (Byt.below P_5.out hb)
      have Q_6 := Lib.hid (Byt.below Q_5.out hb)
      clear hrn h7 h8
      clear hb
      have HB_7 := Lib.hid (HB_6.out.alloc HB_6.out.size (.cells #[.int .u16 0, .int .u8 0, .int .u8 0, .int .u8 0, .int .u8 0, .int .u8 0] 25))
      have RT_7 := Lib.hid (RowAt.alloc RT_6.out (.cells #[.int .u16 0, .int .u8 0, .int .u8 0, .int .u8 0, .int .u8 0, .int .u8 0] 25))
      have P_7 := Lib.hid (Byt.below P_6.out ((Below.refl _ _).alloc (Nat.le_refl _) (.cells #[.int .u16 0, .int .u8 0, .int .u8 0, .int .u8 0, .int .u8 0, .int .u8 0] 25)))
      have Q_7 := Lib.hid (Byt.below Q_6.out ((Below.refl _ _).alloc (Nat.le_refl _) (.cells #[.int .u16 0, .int .u8 0, .int .u8 0, .int .u8 0, .int .u8 0, .int .u8 0] 25)))
      have R9_7 := Lib.hid (RowAt.new w6 #[.int .u16 0, .int .u8 0, .int .u8 0, .int .u8 0, .int .u8 0, .int .u8 0] 25 (w6.heap.size) (by first | rfl | simp))
      have R9c0 := R9_7.out.cell 0 (.int .u16 0) rfl
      have R9c1 := R9_7.out.cell 1 (.int .u8 0) rfl
      have R9c2 := R9_7.out.cell 2 (.int .u8 0) rfl
      have R9c3 := R9_7.out.cell 3 (.int .u8 0) rfl
      have R9c4 := R9_7.out.cell 4 (.int .u8 0) rfl
      have R9c5 := R9_7.out.cell 5 (.int .u8 0) rfl
      have R9z := R9_7.out.lt
      have hez := HEZ.out
      go_wp2_with fail
      refine (works_calls _).mono ?_
      rintro e wz ⟨rfl, hb⟩
      have HBz := Lib.hid (HB_7.out.trans (hb.mono HB_7.out.size))
      clear hb R9c0 R9c1 R9c2 R9c3 R9c4 R9c5 R9z hez
      go_wp2
      go_ret
      exact ⟨rfl, HBz.out⟩
    obtain ⟨j, hj⟩ : ∃ j, Hid (j = m - 40 - np) := ⟨_, Lib.hid rfl⟩
    have hlt : decide ((m : Int) < 40 + (np : Int)) = false := by simp; omega
    have hry := HRYq.out (by omega) j hj.out
    have HJN : Hid (j ≤ nd) := Lib.hid (by have := hj.out; have := HZ3.out; omega)
    go_wp2_with fail
    refine (hry _ _ O6.out).mono ?_
    rintro e w6 ⟨x7, c7, x8, c8', rfl, h7, h8, hb⟩
    have HB_6 := Lib.hid (HB_5.out.trans (hb.mono HB_5.out.size))
    have RT_6 := Lib.hid (RowAt.below RT_5.out hb)
    have P_6 := Lib.hid (Byt.below P_5.out hb)
    have Q_6 := Lib.hid (Byt.below Q_5.out hb)
    have OB_6 := Lib.hid h7.byt
    have OD_6 := Lib.hid h8.byt
    clear hry h7 h8
    clear hb
    have HB_7 := Lib.hid (HB_6.out.alloc HB_6.out.size (.cells #[.int .u16 y, .int .u8 mo, .int .u8 dd, .int .u8 hh, .int .u8 mi, .int .u8 se] 25))
    have RT_7 := Lib.hid (RowAt.alloc RT_6.out (.cells #[.int .u16 y, .int .u8 mo, .int .u8 dd, .int .u8 hh, .int .u8 mi, .int .u8 se] 25))
    have P_7 := Lib.hid (Byt.below P_6.out ((Below.refl _ _).alloc (Nat.le_refl _) (.cells #[.int .u16 y, .int .u8 mo, .int .u8 dd, .int .u8 hh, .int .u8 mi, .int .u8 se] 25)))
    have Q_7 := Lib.hid (Byt.below Q_6.out ((Below.refl _ _).alloc (Nat.le_refl _) (.cells #[.int .u16 y, .int .u8 mo, .int .u8 dd, .int .u8 hh, .int .u8 mi, .int .u8 se] 25)))
    have OB_7 := Lib.hid (Byt.below OB_6.out ((Below.refl _ _).alloc (Nat.le_refl _) (.cells #[.int .u16 y, .int .u8 mo, .int .u8 dd, .int .u8 hh, .int .u8 mi, .int .u8 se] 25)))
    have OD_7 := Lib.hid (Byt.below OD_6.out ((Below.refl _ _).alloc (Nat.le_refl _) (.cells #[.int .u16 y, .int .u8 mo, .int .u8 dd, .int .u8 hh, .int .u8 mi, .int .u8 se] 25)))
    have RS_7 := Lib.hid (RowAt.new w6 #[.int .u16 y, .int .u8 mo, .int .u8 dd, .int .u8 hh, .int .u8 mi, .int .u8 se] 25 (w6.heap.size) (by first | rfl | simp))
    have RTc0 := RT_7.out.cell 0 (.int .u16 y) rfl
    have RTc1 := RT_7.out.cell 1 (.int .u8 mo) rfl
    have RTc2 := RT_7.out.cell 2 (.int .u8 dd) rfl
    have RTc3 := RT_7.out.cell 3 (.int .u8 hh) rfl
    have RTc4 := RT_7.out.cell 4 (.int .u8 mi) rfl
    have RTc5 := RT_7.out.cell 5 (.int .u8 se) rfl
    have RTz := RT_7.out.lt
    have RSc0 := RS_7.out.cell 0 (.int .u16 y) rfl
    have RSc1 := RS_7.out.cell 1 (.int .u8 mo) rfl
    have RSc2 := RS_7.out.cell 2 (.int .u8 dd) rfl
    have RSc3 := RS_7.out.cell 3 (.int .u8 hh) rfl
    have RSc4 := RS_7.out.cell 4 (.int .u8 mi) rfl
    have RSc5 := RS_7.out.cell 5 (.int .u8 se) rfl
    have RSz := RS_7.out.lt
    have heq := HEQ.out
    have hjm : (m : Int) - 40 - (np : Int) = (j : Int) := by have := hj.out; omega
    have hh1 := byt_head' Q_7.out hnd.out HJN.out ((m : Int) - 40 - (np : Int)) hjm
    have hsl1 := hh1.1
    have hsl2 := hsl1
    rw [hjm] at hsl2
    have HJ := Lib.hid hh1.2
    clear hh1
    go_wp2_with fail
    refine (same_form b b true (decide_eq_true rfl) _ _ _ OB_7.out P_7.out).mono ?_
    rintro e w' ⟨rfl, rfl⟩
    go_wp2_with fail
    refine (same_form (d.take j) (d.take j) true (decide_eq_true rfl) _ _ _ OD_7.out HJ.out).mono ?_
    rintro e w' ⟨rfl, rfl⟩
    go_wp2_with fail
    refine (works_calls _).mono ?_
    rintro e wz ⟨rfl, hb⟩
    have HBz := Lib.hid (HB_7.out.trans (hb.mono HB_7.out.size))
    clear hb RTc0 RTc1 RTc2 RTc3 RTc4 RTc5 RTz RSc0 RSc1 RSc2 RSc3 RSc4 RSc5 RSz heq hjm hsl1 hsl2
    go_wp2
    go_ret
    exact ⟨rfl, HBz.out⟩

theorem descrTurned_walk (t : Tm) (p : Value) (b : List UInt8) (q : Value) (d : List UInt8) (ta tb tc : Int) (w : World) (ht : t.Fit) (hp : Byt w p b) (hq : Byt w q d) (ha : (Lit.int .u8 ta).wf = true) (hb : (Lit.int .u8 tb).wf = true) (hc : (Lit.int .u16 tc).wf = true) :
    Calls Try.prog 5 #[tmV t, p, q, .int .u8 ta, .int .u8 tb, .int .u16 tc] w fun e w' => e = .returned (.bool true) ∧ Below w.heap.size w w' := by
  by_cases h2 : b.length ≤ 4096
  · by_cases h3 : d.length ≤ 4096
    · exact descrTurned_main t p b q d ta tb tc w ht hp hq ha hb hc h2 h3
    · exact descrTurned_big2 t p b q d ta tb tc w ht hp hq ha hb hc h2 (by omega)
  · exact descrTurned_big1 t p b q d ta tb tc w ht hp hq ha hb hc (by omega)
end Go.Proofs.Ytemojckmnlgkdaa
