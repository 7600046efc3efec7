/-
  The walk of the law DescrApart.
-/
import Derived.Test.YtemojckmnlgkdaaDsWorks
import Derived.Test.YtemojckmnlgkdaaSit
import Derived.Test.YtemojckmnlgkdaaOpenTm
import Derived.Test.YtemojckmnlgkdaaVarPlain
import Derived.Test.YtemojckmnlgkdaaGidEq
import Derived.Deep.MidRow
namespace Go.Proofs.Ytemojckmnlgkdaa
open Go Go.RowKit
set_option linter.unusedVariables false

theorem varX_at (x : DV) (dv : Value) (h : x.Ok) (X : Array Value) (hX : X = (varC x dv).toArray) (S : ByteArray) (hS : S = sOf x.nm) : X[0]? = some (.string S) ∧ X[17]? = some (.int .u32 (x.a : Int)) ∧
    X[18]? = some (.int .u16 x.t.y) ∧ X[19]? = some (.int .u8 x.t.mo) ∧ X[20]? = some (.int .u8 x.t.d) ∧ X[21]? = some (.int .u8 x.t.h) ∧ X[22]? = some (.int .u8 x.t.mi) ∧ X[23]? = some (.int .u8 x.t.s) ∧
    X[56]? = some dv ∧ ∀ j v, (x.g.map b8)[j]? = some v → X[1 + j]? = some v := by
  rw [hX, hS]
  simpa only [List.getElem?_toArray] using varC_at x dv h
theorem var_range {w : World} {b : Nat} {X : Array Value} {g : List UInt8} (h : RowAt w b X) (hg : ∀ j v, (g.map b8)[j]? = some v → X[1 + j]? = some v) : w.rangeAt b 1 (g.map b8) := fun j v hj => h.cell (1 + j) v (hg j v hj)
/-- A load that is guarded, at the list of a plain region's operations. -/
theorem wpList_load_mid_g {ops : Array Oper} {rest : List Oper} {op : Oper} {a : Act} {w : World} {Q : Exit → Act → World → Prop} (hw : Region.wanted op (yielded ops a.tmps) = true) (ty : TypeId) (x : Operand) (ho : op.op = .load ty x)
    (b o : Nat) (hx : a.eval x = .pointer (some ⟨b, o, none⟩)) (cs : List Value) (d : TypeDesc) (hc : w.rangeAt b o cs)
    (hu : Try.prog.underlying ty = some d) (hd : d.isRow = true) (hi : (Try.prog.info? ty).map (·.size) = some cs.length)
    (h : wpList Try.prog ops Q rest (a.put op.dst (.agg cs.toArray)) w) : wpList Try.prog ops Q (op :: rest) a w :=
  wpList_step fun _ hK => by
    rw [if_pos hw]
    exact wp_load_mid ty x ho b o hx cs d hc hu hd hi (hK _ _ h)
theorem str_index (l : List UInt8) (s : ByteArray) (hs : s = sOf l) : ∀ k : Nat, k < l.length → ∀ W : World, (Instr.index 9 (.string s) (.int .i64 (k : Int))).run Try.prog W = .ok (.int .u8 (l.getD k 0).toNat) W := by
  intro k hk W
  have : ∀ (t : ByteArray), t = sOf l → (Instr.index 9 (.string t) (.int .i64 (k : Int))).run Try.prog W = .ok (.int .u8 (l.getD k 0).toNat) W := by
    rintro t rfl
    rw [run_index_string _ _ _ _ _ Try.underlying9, dif_pos ⟨by omega, by rw [sOf_size]; omega⟩]
    simp only [Int.toNat_natCast]
    rw [sOf_get l k (by rw [sOf_size]; exact hk)]
  exact this s hs

set_option maxRecDepth 100000 in
set_option maxHeartbeats 4000000 in
theorem rightW_calls (t : Tm) (ht : t.Fit) (w : World) : Calls Try.prog 16 #[tmV t] w fun e w' => e = .returned (.bool (rightB t)) ∧ Below w.heap.size w w' := by
  obtain ⟨Fw, hFw⟩ : ∃ F, Hid (F = wrR t [1] []) := ⟨_, Lib.hid rfl⟩
  obtain ⟨E, hE⟩ : ∃ E, Hid (E = wrE t ([1] : List UInt8).length) := ⟨_, Lib.hid rfl⟩
  obtain ⟨n, hn⟩ : ∃ n, Hid (n = Fw.length) := ⟨_, Lib.hid rfl⟩
  have HW := Lib.hid (fun p' q' W (h1 : Byt W p' [1]) (h2 : Byt W q' []) => write_form (dsWrite_calls t ht p' q' [1] [] W h1 h2 (by decide) (by decide)) Fw hFw.out E hE.out n hn.out)
  have hRB : Hid ((E == 0) = rightB t) := Lib.hid (by
    rw [hE.out]
    unfold wrE dsB
    cases rightB t <;> rfl)
  obtain ⟨RB, hR⟩ : ∃ B, Hid (B = rightB t) := ⟨_, Lib.hid rfl⟩
  have hrb := hRB.out
  rw [← hR.out] at hrb ⊢
  clear hRB
  obtain ⟨y, mo, dd, hh, mi, se⟩ := t
  unfold tmV at HW ⊢
  simp only at HW ⊢
  have HB_0 := Lib.hid (Below.refl w.heap.size w)
  have HB_1 := Lib.hid (HB_0.out.alloc HB_0.out.size (.cells #[.int .u16 y, .int .u8 mo, .int .u8 dd, .int .u8 hh, .int .u8 mi, .int .u8 se] 25))
  have RT_1 := Lib.hid (RowAt.new w #[.int .u16 y, .int .u8 mo, .int .u8 dd, .int .u8 hh, .int .u8 mi, .int .u8 se] 25 (w.heap.size) (by first | rfl | simp))
  have HB_2 := Lib.hid (HB_1.out.alloc HB_1.out.size (.cells #[.int .u8 1] 5))
  have RT_2 := Lib.hid (RowAt.alloc RT_1.out (.cells #[.int .u8 1] 5))
  have BA_2 := Lib.hid ((by have := Byt.one (w.alloc (.cells #[.int .u16 y, .int .u8 mo, .int .u8 dd, .int .u8 hh, .int .u8 mi, .int .u8 se] 25)) 1 1 5 rfl; rw [show (w.alloc (.cells #[.int .u16 y, .int .u8 mo, .int .u8 dd, .int .u8 hh, .int .u8 mi, .int .u8 se] 25)).heap.size = w.heap.size + 1 by simp] at this; exact this : Byt ((w.alloc (.cells #[.int .u16 y, .int .u8 mo, .int .u8 dd, .int .u8 hh, .int .u8 mi, .int .u8 se] 25)).alloc (.cells #[.int .u8 1] 5)) (.slice (some ⟨w.heap.size + 1, 0, none⟩) 1 1) [1]))
  go_enter Try.func16, Try.ntmps16
  go_wp2_with fail
  refine (HW.out _ _ _ BA_2.out (Byt.nil _)).mono ?_
  rintro e w3 ⟨x1, c1, rfl, ho, hb⟩
  have HB_3 := Lib.hid (HB_2.out.trans (hb.mono HB_2.out.size))
  have RT_3 := Lib.hid (RowAt.below RT_2.out hb)
  have BA_3 := Lib.hid (Byt.below BA_2.out hb)
  clear ho
  clear hb
  go_wp2
  go_ret
  exact ⟨rfl, HB_3.out⟩

set_option maxRecDepth 100000 in
set_option maxHeartbeats 4000000 in
theorem descrApart_big1 (x1 : DV) (dv1 : Value) (x2 : DV) (dv2 : Value) (w : World) (o1 : x1.Ok) (b1 : Byt w dv1 x1.d) (o2 : x2.Ok) (b2 : Byt w dv2 x2.d) (h1 : 64 < x1.nm.length) :
    Calls Try.prog 6 #[.agg (varC x1 dv1).toArray, .agg (varC x2 dv2).toArray] w fun e w' => e = .returned (.bool true) ∧ Below w.heap.size w w' := by
  have HV1 := Lib.hid b1
  obtain ⟨xd1, cd1, rfl, e11, e12⟩ := b1.shut
  clear b1
  obtain ⟨nd1, hnd1⟩ : ∃ n, Hid (n = x1.d.length) := ⟨_, Lib.hid rfl⟩
  obtain ⟨nn1, hnn1⟩ : ∃ n, Hid (n = x1.nm.length) := ⟨_, Lib.hid rfl⟩
  rw [← hnd1.out] at HV1 e11 ⊢
  obtain ⟨S1, hS1⟩ : ∃ S, Hid (S = sOf x1.nm) := ⟨_, Lib.hid rfl⟩
  have hsz1 : S1.size = nn1 := by rw [hS1.out, hnn1.out]; show x1.nm.toArray.size = x1.nm.length; simp
  obtain ⟨X1, hX1⟩ : ∃ X, Hid (X = (varC x1 (.slice xd1 nd1 cd1)).toArray) := ⟨_, Lib.hid rfl⟩
  have HX1 := Lib.hid (varX_at x1 _ o1 X1 hX1.out S1 hS1.out)
  have HO1 := Lib.hid o1
  have hnb1 : nn1 ≤ 9223372036854775807 := by rw [hnn1.out]; exact o1.n
  rw [← hX1.out]
  clear o1
  have HV2 := Lib.hid b2
  obtain ⟨xd2, cd2, rfl, e21, e22⟩ := b2.shut
  clear b2
  obtain ⟨nd2, hnd2⟩ : ∃ n, Hid (n = x2.d.length) := ⟨_, Lib.hid rfl⟩
  obtain ⟨nn2, hnn2⟩ : ∃ n, Hid (n = x2.nm.length) := ⟨_, Lib.hid rfl⟩
  rw [← hnd2.out] at HV2 e21 ⊢
  obtain ⟨S2, hS2⟩ : ∃ S, Hid (S = sOf x2.nm) := ⟨_, Lib.hid rfl⟩
  have hsz2 : S2.size = nn2 := by rw [hS2.out, hnn2.out]; show x2.nm.toArray.size = x2.nm.length; simp
  obtain ⟨X2, hX2⟩ : ∃ X, Hid (X = (varC x2 (.slice xd2 nd2 cd2)).toArray) := ⟨_, Lib.hid rfl⟩
  have HX2 := Lib.hid (varX_at x2 _ o2 X2 hX2.out S2 hS2.out)
  have HO2 := Lib.hid o2
  have hnb2 : nn2 ≤ 9223372036854775807 := by rw [hnn2.out]; exact o2.n
  rw [← hX2.out]
  clear o2
  have t0 : decide ((64 : Int) < (nn1 : Int)) = true := by have := hnn1.out; have := hnn2.out; have := hnd1.out; have := hnd2.out; simp; omega
  have HB_0 := Lib.hid (Below.refl w.heap.size w)
  have HB_1 := Lib.hid (HB_0.out.alloc HB_0.out.size (.cells X1 43))
  have V1_1 := Lib.hid (Byt.below HV1.out ((Below.refl _ _).alloc (Nat.le_refl _) (.cells X1 43)))
  have V2_1 := Lib.hid (Byt.below HV2.out ((Below.refl _ _).alloc (Nat.le_refl _) (.cells X1 43)))
  have R1_1 := Lib.hid (RowAt.new w X1 43 (w.heap.size) (by simp))
  have HB_2 := Lib.hid (HB_1.out.alloc HB_1.out.size (.cells X2 43))
  have V1_2 := Lib.hid (Byt.below V1_1.out ((Below.refl _ _).alloc (Nat.le_refl _) (.cells X2 43)))
  have V2_2 := Lib.hid (Byt.below V2_1.out ((Below.refl _ _).alloc (Nat.le_refl _) (.cells X2 43)))
  have R1_2 := Lib.hid (RowAt.alloc R1_1.out (.cells X2 43))
  have R2_2 := Lib.hid (RowAt.new (w.alloc (.cells X1 43)) X2 43 (w.heap.size + 1) (by simp))
  have v1n := R1_2.out.cell 0 (.string S1) (HX1.out.1)
  have v1d := R1_2.out.cell 56 (.slice xd1 nd1 cd1) (HX1.out.2.2.2.2.2.2.2.2.1)
  have v1z := R1_2.out.lt
  have v2n := R2_2.out.cell 0 (.string S2) (HX2.out.1)
  have v2d := R2_2.out.cell 56 (.slice xd2 nd2 cd2) (HX2.out.2.2.2.2.2.2.2.2.1)
  have v2z := R2_2.out.lt
  go_enter Try.func6, Try.ntmps6
  go_wp2_with fail
  refine (works_calls _).mono ?_
  rintro e wz ⟨rfl, hb⟩
  have HBz := Lib.hid (HB_2.out.trans (hb.mono HB_2.out.size))
  clear hb v1n v1d v1z v2n v2d v2z
  go_wp2
  go_ret
  exact ⟨rfl, HBz.out⟩

set_option maxRecDepth 100000 in
set_option maxHeartbeats 4000000 in
theorem descrApart_big2 (x1 : DV) (dv1 : Value) (x2 : DV) (dv2 : Value) (w : World) (o1 : x1.Ok) (b1 : Byt w dv1 x1.d) (o2 : x2.Ok) (b2 : Byt w dv2 x2.d) (h1 : x1.nm.length ≤ 64) (h2 : x1.nm.length ≠ x2.nm.length) :
    Calls Try.prog 6 #[.agg (varC x1 dv1).toArray, .agg (varC x2 dv2).toArray] w fun e w' => e = .returned (.bool true) ∧ Below w.heap.size w w' := by
  have HV1 := Lib.hid b1
  obtain ⟨xd1, cd1, rfl, e11, e12⟩ := b1.shut
  clear b1
  obtain ⟨nd1, hnd1⟩ : ∃ n, Hid (n = x1.d.length) := ⟨_, Lib.hid rfl⟩
  obtain ⟨nn1, hnn1⟩ : ∃ n, Hid (n = x1.nm.length) := ⟨_, Lib.hid rfl⟩
  rw [← hnd1.out] at HV1 e11 ⊢
  obtain ⟨S1, hS1⟩ : ∃ S, Hid (S = sOf x1.nm) := ⟨_, Lib.hid rfl⟩
  have hsz1 : S1.size = nn1 := by rw [hS1.out, hnn1.out]; show x1.nm.toArray.size = x1.nm.length; simp
  obtain ⟨X1, hX1⟩ : ∃ X, Hid (X = (varC x1 (.slice xd1 nd1 cd1)).toArray) := ⟨_, Lib.hid rfl⟩
  have HX1 := Lib.hid (varX_at x1 _ o1 X1 hX1.out S1 hS1.out)
  have HO1 := Lib.hid o1
  have hnb1 : nn1 ≤ 9223372036854775807 := by rw [hnn1.out]; exact o1.n
  rw [← hX1.out]
  clear o1
  have HV2 := Lib.hid b2
  obtain ⟨xd2, cd2, rfl, e21, e22⟩ := b2.shut
  clear b2
  obtain ⟨nd2, hnd2⟩ : ∃ n, Hid (n = x2.d.length) := ⟨_, Lib.hid rfl⟩
  obtain ⟨nn2, hnn2⟩ : ∃ n, Hid (n = x2.nm.length) := ⟨_, Lib.hid rfl⟩
  rw [← hnd2.out] at HV2 e21 ⊢
  obtain ⟨S2, hS2⟩ : ∃ S, Hid (S = sOf x2.nm) := ⟨_, Lib.hid rfl⟩
  have hsz2 : S2.size = nn2 := by rw [hS2.out, hnn2.out]; show x2.nm.toArray.size = x2.nm.length; simp
  obtain ⟨X2, hX2⟩ : ∃ X, Hid (X = (varC x2 (.slice xd2 nd2 cd2)).toArray) := ⟨_, Lib.hid rfl⟩
  have HX2 := Lib.hid (varX_at x2 _ o2 X2 hX2.out S2 hS2.out)
  have HO2 := Lib.hid o2
  have hnb2 : nn2 ≤ 9223372036854775807 := by rw [hnn2.out]; exact o2.n
  rw [← hX2.out]
  clear o2
  have t0 : decide ((64 : Int) < (nn1 : Int)) = false := by have := hnn1.out; have := hnn2.out; have := hnd1.out; have := hnd2.out; simp; omega
  have t1 : ((nn1 : Int) != (nn2 : Int)) = true := by have := hnn1.out; have := hnn2.out; have := hnd1.out; have := hnd2.out; simp; omega
  have HB_0 := Lib.hid (Below.refl w.heap.size w)
  have HB_1 := Lib.hid (HB_0.out.alloc HB_0.out.size (.cells X1 43))
  have V1_1 := Lib.hid (Byt.below HV1.out ((Below.refl _ _).alloc (Nat.le_refl _) (.cells X1 43)))
  have V2_1 := Lib.hid (Byt.below HV2.out ((Below.refl _ _).alloc (Nat.le_refl _) (.cells X1 43)))
  have R1_1 := Lib.hid (RowAt.new w X1 43 (w.heap.size) (by simp))
  have HB_2 := Lib.hid (HB_1.out.alloc HB_1.out.size (.cells X2 43))
  have V1_2 := Lib.hid (Byt.below V1_1.out ((Below.refl _ _).alloc (Nat.le_refl _) (.cells X2 43)))
  have V2_2 := Lib.hid (Byt.below V2_1.out ((Below.refl _ _).alloc (Nat.le_refl _) (.cells X2 43)))
  have R1_2 := Lib.hid (RowAt.alloc R1_1.out (.cells X2 43))
  have R2_2 := Lib.hid (RowAt.new (w.alloc (.cells X1 43)) X2 43 (w.heap.size + 1) (by simp))
  have v1n := R1_2.out.cell 0 (.string S1) (HX1.out.1)
  have v1d := R1_2.out.cell 56 (.slice xd1 nd1 cd1) (HX1.out.2.2.2.2.2.2.2.2.1)
  have v1z := R1_2.out.lt
  have v2n := R2_2.out.cell 0 (.string S2) (HX2.out.1)
  have v2d := R2_2.out.cell 56 (.slice xd2 nd2 cd2) (HX2.out.2.2.2.2.2.2.2.2.1)
  have v2z := R2_2.out.lt
  go_enter Try.func6, Try.ntmps6
  go_wp2_with fail
  refine (works_calls _).mono ?_
  rintro e wz ⟨rfl, hb⟩
  have HBz := Lib.hid (HB_2.out.trans (hb.mono HB_2.out.size))
  clear hb v1n v1d v1z v2n v2d v2z
  go_wp2
  go_ret
  exact ⟨rfl, HBz.out⟩

set_option maxRecDepth 100000 in
set_option maxHeartbeats 4000000 in
theorem descrApart_big3 (x1 : DV) (dv1 : Value) (x2 : DV) (dv2 : Value) (w : World) (o1 : x1.Ok) (b1 : Byt w dv1 x1.d) (o2 : x2.Ok) (b2 : Byt w dv2 x2.d) (h1 : x1.nm.length ≤ 64) (h2 : x1.nm.length = x2.nm.length) (h3 : x1.d.length ≠ x2.d.length) :
    Calls Try.prog 6 #[.agg (varC x1 dv1).toArray, .agg (varC x2 dv2).toArray] w fun e w' => e = .returned (.bool true) ∧ Below w.heap.size w w' := by
  have HV1 := Lib.hid b1
  obtain ⟨xd1, cd1, rfl, e11, e12⟩ := b1.shut
  clear b1
  obtain ⟨nd1, hnd1⟩ : ∃ n, Hid (n = x1.d.length) := ⟨_, Lib.hid rfl⟩
  obtain ⟨nn1, hnn1⟩ : ∃ n, Hid (n = x1.nm.length) := ⟨_, Lib.hid rfl⟩
  rw [← hnd1.out] at HV1 e11 ⊢
  obtain ⟨S1, hS1⟩ : ∃ S, Hid (S = sOf x1.nm) := ⟨_, Lib.hid rfl⟩
  have hsz1 : S1.size = nn1 := by rw [hS1.out, hnn1.out]; show x1.nm.toArray.size = x1.nm.length; simp
  obtain ⟨X1, hX1⟩ : ∃ X, Hid (X = (varC x1 (.slice xd1 nd1 cd1)).toArray) := ⟨_, Lib.hid rfl⟩
  have HX1 := Lib.hid (varX_at x1 _ o1 X1 hX1.out S1 hS1.out)
  have HO1 := Lib.hid o1
  have hnb1 : nn1 ≤ 9223372036854775807 := by rw [hnn1.out]; exact o1.n
  rw [← hX1.out]
  clear o1
  have HV2 := Lib.hid b2
  obtain ⟨xd2, cd2, rfl, e21, e22⟩ := b2.shut
  clear b2
  obtain ⟨nd2, hnd2⟩ : ∃ n, Hid (n = x2.d.length) := ⟨_, Lib.hid rfl⟩
  obtain ⟨nn2, hnn2⟩ : ∃ n, Hid (n = x2.nm.length) := ⟨_, Lib.hid rfl⟩
  rw [← hnd2.out] at HV2 e21 ⊢
  obtain ⟨S2, hS2⟩ : ∃ S, Hid (S = sOf x2.nm) := ⟨_, Lib.hid rfl⟩
  have hsz2 : S2.size = nn2 := by rw [hS2.out, hnn2.out]; show x2.nm.toArray.size = x2.nm.length; simp
  obtain ⟨X2, hX2⟩ : ∃ X, Hid (X = (varC x2 (.slice xd2 nd2 cd2)).toArray) := ⟨_, Lib.hid rfl⟩
  have HX2 := Lib.hid (varX_at x2 _ o2 X2 hX2.out S2 hS2.out)
  have HO2 := Lib.hid o2
  have hnb2 : nn2 ≤ 9223372036854775807 := by rw [hnn2.out]; exact o2.n
  rw [← hX2.out]
  clear o2
  have t0 : decide ((64 : Int) < (nn1 : Int)) = false := by have := hnn1.out; have := hnn2.out; have := hnd1.out; have := hnd2.out; simp; omega
  obtain rfl : nn1 = nn2 := by have := hnn1.out; have := hnn2.out; omega
  have t1 : ((nn1 : Int) != (nn1 : Int)) = false := by simp
  have t2 : ((nd1 : Int) != (nd2 : Int)) = true := by have := hnn1.out; have := hnn2.out; have := hnd1.out; have := hnd2.out; simp; omega
  have HB_0 := Lib.hid (Below.refl w.heap.size w)
  have HB_1 := Lib.hid (HB_0.out.alloc HB_0.out.size (.cells X1 43))
  have V1_1 := Lib.hid (Byt.below HV1.out ((Below.refl _ _).alloc (Nat.le_refl _) (.cells X1 43)))
  have V2_1 := Lib.hid (Byt.below HV2.out ((Below.refl _ _).alloc (Nat.le_refl _) (.cells X1 43)))
  have R1_1 := Lib.hid (RowAt.new w X1 43 (w.heap.size) (by simp))
  have HB_2 := Lib.hid (HB_1.out.alloc HB_1.out.size (.cells X2 43))
  have V1_2 := Lib.hid (Byt.below V1_1.out ((Below.refl _ _).alloc (Nat.le_refl _) (.cells X2 43)))
  have V2_2 := Lib.hid (Byt.below V2_1.out ((Below.refl _ _).alloc (Nat.le_refl _) (.cells X2 43)))
  have R1_2 := Lib.hid (RowAt.alloc R1_1.out (.cells X2 43))
  have R2_2 := Lib.hid (RowAt.new (w.alloc (.cells X1 43)) X2 43 (w.heap.size + 1) (by simp))
  have v1n := R1_2.out.cell 0 (.string S1) (HX1.out.1)
  have v1d := R1_2.out.cell 56 (.slice xd1 nd1 cd1) (HX1.out.2.2.2.2.2.2.2.2.1)
  have v1z := R1_2.out.lt
  have v2n := R2_2.out.cell 0 (.string S2) (HX2.out.1)
  have v2d := R2_2.out.cell 56 (.slice xd2 nd2 cd2) (HX2.out.2.2.2.2.2.2.2.2.1)
  have v2z := R2_2.out.lt
  go_enter Try.func6, Try.ntmps6
  go_wp2_with fail
  refine (works_calls _).mono ?_
  rintro e wz ⟨rfl, hb⟩
  have HBz := Lib.hid (HB_2.out.trans (hb.mono HB_2.out.size))
  clear hb v1n v1d v1z v2n v2d v2z
  go_wp2
  go_ret
  exact ⟨rfl, HBz.out⟩

set_option maxRecDepth 100000 in
set_option maxHeartbeats 4000000 in
theorem descrApart_big4 (x1 : DV) (dv1 : Value) (x2 : DV) (dv2 : Value) (w : World) (o1 : x1.Ok) (b1 : Byt w dv1 x1.d) (o2 : x2.Ok) (b2 : Byt w dv2 x2.d) (h1 : x1.nm.length ≤ 64) (h2 : x1.nm.length = x2.nm.length) (h3 : x1.d.length = x2.d.length) (h4 : 4096 < x1.d.length) :
    Calls Try.prog 6 #[.agg (varC x1 dv1).toArray, .agg (varC x2 dv2).toArray] w fun e w' => e = .returned (.bool true) ∧ Below w.heap.size w w' := by
  have HV1 := Lib.hid b1
  obtain ⟨xd1, cd1, rfl, e11, e12⟩ := b1.shut
  clear b1
  obtain ⟨nd1, hnd1⟩ : ∃ n, Hid (n = x1.d.length) := ⟨_, Lib.hid rfl⟩
  obtain ⟨nn1, hnn1⟩ : ∃ n, Hid (n = x1.nm.length) := ⟨_, Lib.hid rfl⟩
  rw [← hnd1.out] at HV1 e11 ⊢
  obtain ⟨S1, hS1⟩ : ∃ S, Hid (S = sOf x1.nm) := ⟨_, Lib.hid rfl⟩
  have hsz1 : S1.size = nn1 := by rw [hS1.out, hnn1.out]; show x1.nm.toArray.size = x1.nm.length; simp
  obtain ⟨X1, hX1⟩ : ∃ X, Hid (X = (varC x1 (.slice xd1 nd1 cd1)).toArray) := ⟨_, Lib.hid rfl⟩
  have HX1 := Lib.hid (varX_at x1 _ o1 X1 hX1.out S1 hS1.out)
  have HO1 := Lib.hid o1
  have hnb1 : nn1 ≤ 9223372036854775807 := by rw [hnn1.out]; exact o1.n
  rw [← hX1.out]
  clear o1
  have HV2 := Lib.hid b2
  obtain ⟨xd2, cd2, rfl, e21, e22⟩ := b2.shut
  clear b2
  obtain ⟨nd2, hnd2⟩ : ∃ n, Hid (n = x2.d.length) := ⟨_, Lib.hid rfl⟩
  obtain ⟨nn2, hnn2⟩ : ∃ n, Hid (n = x2.nm.length) := ⟨_, Lib.hid rfl⟩
  rw [← hnd2.out] at HV2 e21 ⊢
  obtain ⟨S2, hS2⟩ : ∃ S, Hid (S = sOf x2.nm) := ⟨_, Lib.hid rfl⟩
  have hsz2 : S2.size = nn2 := by rw [hS2.out, hnn2.out]; show x2.nm.toArray.size = x2.nm.length; simp
  obtain ⟨X2, hX2⟩ : ∃ X, Hid (X = (varC x2 (.slice xd2 nd2 cd2)).toArray) := ⟨_, Lib.hid rfl⟩
  have HX2 := Lib.hid (varX_at x2 _ o2 X2 hX2.out S2 hS2.out)
  have HO2 := Lib.hid o2
  have hnb2 : nn2 ≤ 9223372036854775807 := by rw [hnn2.out]; exact o2.n
  rw [← hX2.out]
  clear o2
  have t0 : decide ((64 : Int) < (nn1 : Int)) = false := by have := hnn1.out; have := hnn2.out; have := hnd1.out; have := hnd2.out; simp; omega
  obtain rfl : nn1 = nn2 := by have := hnn1.out; have := hnn2.out; omega
  have t1 : ((nn1 : Int) != (nn1 : Int)) = false := by simp
  obtain rfl : nd1 = nd2 := by have := hnd1.out; have := hnd2.out; omega
  have t2 : ((nd1 : Int) != (nd1 : Int)) = false := by simp
  have t3 : decide ((4096 : Int) < (nd1 : Int)) = true := by have := hnd1.out; simp; omega
  have HB_0 := Lib.hid (Below.refl w.heap.size w)
  have HB_1 := Lib.hid (HB_0.out.alloc HB_0.out.size (.cells X1 43))
  have V1_1 := Lib.hid (Byt.below HV1.out ((Below.refl _ _).alloc (Nat.le_refl _) (.cells X1 43)))
  have V2_1 := Lib.hid (Byt.below HV2.out ((Below.refl _ _).alloc (Nat.le_refl _) (.cells X1 43)))
  have R1_1 := Lib.hid (RowAt.new w X1 43 (w.heap.size) (by simp))
  have HB_2 := Lib.hid (HB_1.out.alloc HB_1.out.size (.cells X2 43))
  have V1_2 := Lib.hid (Byt.below V1_1.out ((Below.refl _ _).alloc (Nat.le_refl _) (.cells X2 43)))
  have V2_2 := Lib.hid (Byt.below V2_1.out ((Below.refl _ _).alloc (Nat.le_refl _) (.cells X2 43)))
  have R1_2 := Lib.hid (RowAt.alloc R1_1.out (.cells X2 43))
  have R2_2 := Lib.hid (RowAt.new (w.alloc (.cells X1 43)) X2 43 (w.heap.size + 1) (by simp))
  have v1n := R1_2.out.cell 0 (.string S1) (HX1.out.1)
  have v1d := R1_2.out.cell 56 (.slice xd1 nd1 cd1) (HX1.out.2.2.2.2.2.2.2.2.1)
  have v1z := R1_2.out.lt
  have v2n := R2_2.out.cell 0 (.string S2) (HX2.out.1)
  have v2d := R2_2.out.cell 56 (.slice xd2 nd1 cd2) (HX2.out.2.2.2.2.2.2.2.2.1)
  have v2z := R2_2.out.lt
  go_enter Try.func6, Try.ntmps6
  go_wp2_with fail
  refine (works_calls _).mono ?_
  rintro e wz ⟨rfl, hb⟩
  have HBz := Lib.hid (HB_2.out.trans (hb.mono HB_2.out.size))
  clear hb v1n v1d v1z v2n v2d v2z
  go_wp2
  go_ret
  exact ⟨rfl, HBz.out⟩

set_option maxRecDepth 100000 in
set_option maxHeartbeats 4000000 in
theorem descrApart_main (x1 : DV) (dv1 : Value) (x2 : DV) (dv2 : Value) (w : World) (o1 : x1.Ok) (b1 : Byt w dv1 x1.d) (o2 : x2.Ok) (b2 : Byt w dv2 x2.d) (h1 : x1.nm.length ≤ 64) (h2 : x1.nm.length = x2.nm.length) (h3 : x1.d.length = x2.d.length) (h4 : x1.d.length ≤ 4096) :
    Calls Try.prog 6 #[.agg (varC x1 dv1).toArray, .agg (varC x2 dv2).toArray] w fun e w' => e = .returned (.bool true) ∧ Below w.heap.size w w' := by
  have HV1 := Lib.hid b1
  obtain ⟨xd1, cd1, rfl, e11, e12⟩ := b1.shut
  clear b1
  obtain ⟨nd1, hnd1⟩ : ∃ n, Hid (n = x1.d.length) := ⟨_, Lib.hid rfl⟩
  obtain ⟨nn1, hnn1⟩ : ∃ n, Hid (n = x1.nm.length) := ⟨_, Lib.hid rfl⟩
  rw [← hnd1.out] at HV1 e11 ⊢
  obtain ⟨S1, hS1⟩ : ∃ S, Hid (S = sOf x1.nm) := ⟨_, Lib.hid rfl⟩
  have hsz1 : S1.size = nn1 := by rw [hS1.out, hnn1.out]; show x1.nm.toArray.size = x1.nm.length; simp
  obtain ⟨X1, hX1⟩ : ∃ X, Hid (X = (varC x1 (.slice xd1 nd1 cd1)).toArray) := ⟨_, Lib.hid rfl⟩
  have HX1 := Lib.hid (varX_at x1 _ o1 X1 hX1.out S1 hS1.out)
  have HO1 := Lib.hid o1
  have hnb1 : nn1 ≤ 9223372036854775807 := by rw [hnn1.out]; exact o1.n
  rw [← hX1.out]
  clear o1
  have HV2 := Lib.hid b2
  obtain ⟨xd2, cd2, rfl, e21, e22⟩ := b2.shut
  clear b2
  obtain ⟨nd2, hnd2⟩ : ∃ n, Hid (n = x2.d.length) := ⟨_, Lib.hid rfl⟩
  obtain ⟨nn2, hnn2⟩ : ∃ n, Hid (n = x2.nm.length) := ⟨_, Lib.hid rfl⟩
  rw [← hnd2.out] at HV2 e21 ⊢
  obtain ⟨S2, hS2⟩ : ∃ S, Hid (S = sOf x2.nm) := ⟨_, Lib.hid rfl⟩
  have hsz2 : S2.size = nn2 := by rw [hS2.out, hnn2.out]; show x2.nm.toArray.size = x2.nm.length; simp
  obtain ⟨X2, hX2⟩ : ∃ X, Hid (X = (varC x2 (.slice xd2 nd2 cd2)).toArray) := ⟨_, Lib.hid rfl⟩
  have HX2 := Lib.hid (varX_at x2 _ o2 X2 hX2.out S2 hS2.out)
  have HO2 := Lib.hid o2
  have hnb2 : nn2 ≤ 9223372036854775807 := by rw [hnn2.out]; exact o2.n
  rw [← hX2.out]
  clear o2
  have t0 : decide ((64 : Int) < (nn1 : Int)) = false := by have := hnn1.out; have := hnn2.out; have := hnd1.out; have := hnd2.out; simp; omega
  obtain rfl : nn1 = nn2 := by have := hnn1.out; have := hnn2.out; omega
  have t1 : ((nn1 : Int) != (nn1 : Int)) = false := by simp
  obtain rfl : nd1 = nd2 := by have := hnd1.out; have := hnd2.out; omega
  have t2 : ((nd1 : Int) != (nd1 : Int)) = false := by simp
  have t3 : decide ((4096 : Int) < (nd1 : Int)) = false := by have := hnd1.out; simp; omega
  have hn64 : nn1 ≤ 64 := by have := hnn1.out; omega
  have hn4 : nd1 ≤ 4096 := by have := hnd1.out; omega
  have HI1 := Lib.hid (str_index x1.nm S1 hS1.out)
  have HI2 := Lib.hid (str_index x2.nm S2 hS2.out)
  rw [← hnn1.out] at HI1
  rw [← hnn2.out] at HI2
  have HR1 := Lib.hid (fun W => rightW_calls x1.t HO1.out.t W)
  have HR2 := Lib.hid (fun W => rightW_calls x2.t HO2.out.t W)
  obtain ⟨q1, hq1⟩ : ∃ b, Hid (b = rightB x1.t) := ⟨_, Lib.hid rfl⟩
  obtain ⟨q2, hq2⟩ : ∃ b, Hid (b = rightB x2.t) := ⟨_, Lib.hid rfl⟩
  rw [← hq1.out] at HR1
  rw [← hq2.out] at HR2
  unfold tmV at HR1 HR2
  clear h1 h2 h3 h4
  have HTW1 := Lib.hid (fun v W (h : Byt W v x1.d) => own_shape _ _ W (twin_calls v x1.d W h (by rw [← hnd1.out]; omega)))
  rw [← hnd1.out] at HTW1
  obtain ⟨Fx1, hFx1⟩ : ∃ F, Hid (F = dsX x1.nm x1.g x1.a x1.t x1.d) := ⟨_, Lib.hid rfl⟩
  obtain ⟨m1, hm1⟩ : ∃ n, Hid (n = Fx1.length) := ⟨_, Lib.hid rfl⟩
  have HTX1 := Lib.hid (fun q' W (h : Byt W q' x1.d) => own_shape _ _ W (text_calls x1.nm x1.g x1.a x1.t HO1.out.t q' x1.d W HO1.out.g (by rw [← hnn1.out]; omega) HO1.out.a h (by rw [← hnd1.out]; omega)))
  rw [← hFx1.out, ← hm1.out, ← hS1.out] at HTX1
  unfold gidV tmV at HTX1
  have HTW2 := Lib.hid (fun v W (h : Byt W v x2.d) => own_shape _ _ W (twin_calls v x2.d W h (by rw [← hnd2.out]; omega)))
  rw [← hnd2.out] at HTW2
  obtain ⟨Fx2, hFx2⟩ : ∃ F, Hid (F = dsX x2.nm x2.g x2.a x2.t x2.d) := ⟨_, Lib.hid rfl⟩
  obtain ⟨m2, hm2⟩ : ∃ n, Hid (n = Fx2.length) := ⟨_, Lib.hid rfl⟩
  have HTX2 := Lib.hid (fun q' W (h : Byt W q' x2.d) => own_shape _ _ W (text_calls x2.nm x2.g x2.a x2.t HO2.out.t q' x2.d W HO2.out.g (by rw [← hnn2.out]; omega) HO2.out.a h (by rw [← hnd2.out]; omega)))
  rw [← hFx2.out, ← hm2.out, ← hS2.out] at HTX2
  unfold gidV tmV at HTX2
  have HB_0 := Lib.hid (Below.refl w.heap.size w)
  have HB_1 := Lib.hid (HB_0.out.alloc HB_0.out.size (.cells X1 43))
  have V1_1 := Lib.hid (Byt.below HV1.out ((Below.refl _ _).alloc (Nat.le_refl _) (.cells X1 43)))
  have V2_1 := Lib.hid (Byt.below HV2.out ((Below.refl _ _).alloc (Nat.le_refl _) (.cells X1 43)))
  have R1_1 := Lib.hid (RowAt.new w X1 43 (w.heap.size) (by simp))
  have HB_2 := Lib.hid (HB_1.out.alloc HB_1.out.size (.cells X2 43))
  have V1_2 := Lib.hid (Byt.below V1_1.out ((Below.refl _ _).alloc (Nat.le_refl _) (.cells X2 43)))
  have V2_2 := Lib.hid (Byt.below V2_1.out ((Below.refl _ _).alloc (Nat.le_refl _) (.cells X2 43)))
  have R1_2 := Lib.hid (RowAt.alloc R1_1.out (.cells X2 43))
  have R2_2 := Lib.hid (RowAt.new (w.alloc (.cells X1 43)) X2 43 (w.heap.size + 1) (by simp))
  have v1n := R1_2.out.cell 0 (.string S1) (HX1.out.1)
  have v1d := R1_2.out.cell 56 (.slice xd1 nd1 cd1) (HX1.out.2.2.2.2.2.2.2.2.1)
  have v1z := R1_2.out.lt
  have v2n := R2_2.out.cell 0 (.string S2) (HX2.out.1)
  have v2d := R2_2.out.cell 56 (.slice xd2 nd1 cd2) (HX2.out.2.2.2.2.2.2.2.2.1)
  have v2z := R2_2.out.lt
  go_enter Try.func6, Try.ntmps6
  go_wp2_with fail
  clear v1n v1d v1z v2n v2d v2z
  go_loopw [5] (fun i wr => ∃ j : Nat, j ≤ nn1 ∧ i = .int .i64 j ∧ Hid (∀ r, r < j → (33 ≤ (x1.nm.getD r 0).toNat ∧ (x1.nm.getD r 0).toNat ≤ 126) ∧ (33 ≤ (x2.nm.getD r 0).toNat ∧ (x2.nm.getD r 0).toNat ≤ 126)) ∧ Hid (Below ((w.alloc (.cells X1 43)).alloc (.cells X2 43)).heap.size ((w.alloc (.cells X1 43)).alloc (.cells X2 43)) wr)) (fun i _ => nn1 - (intOf i).toNat)
  case atStart => exact ⟨0, Nat.zero_le _, rfl, Lib.hid (fun r hr => absurd hr (Nat.not_lt_zero _)), Lib.hid (Below.refl _ _)⟩
  case round =>
    obtain ⟨j, hj, rfl, hgood, hbe⟩ := hrel
    have HB_3 := Lib.hid (HB_2.out.trans (hbe.out.mono HB_2.out.size))
    have V1_3 := Lib.hid (Byt.below V1_2.out hbe.out)
    have V2_3 := Lib.hid (Byt.below V2_2.out hbe.out)
    have R1_3 := Lib.hid (RowAt.below R1_2.out hbe.out)
    have R2_3 := Lib.hid (RowAt.below R2_2.out hbe.out)
    by_cases hlt : j < nn1
    · skip
      have v1n := R1_3.out.cell 0 (.string S1) (HX1.out.1)
      have v1z := R1_3.out.lt
      have v2n := R2_3.out.cell 0 (.string S2) (HX2.out.1)
      have v2z := R2_3.out.lt
      have hx1 := HI1.out j hlt
      have hx2 := HI2.out j hlt
      obtain ⟨c1, hc1⟩ : ∃ c, Hid (c = x1.nm.getD j 0) := ⟨_, Lib.hid rfl⟩
      obtain ⟨c2, hc2⟩ : ∃ c, Hid (c = x2.nm.getD j 0) := ⟨_, Lib.hid rfl⟩
      rw [← hc1.out] at hx1
      rw [← hc2.out] at hx2
      have hc18 := c1.toNat_lt
      have hc28 := c2.toNat_lt
      have hdl : decide ((j : Int) < (nn1 : Int)) = true := by simp; omega
      by_cases g0 : c1.toNat < 33
      · have s0 : decide ((c1.toNat : Int) < 33) = true := by simp; omega
        go_wp2_with fail
        refine (works_calls _).mono ?_
        rintro e wz ⟨rfl, hb⟩
        have HBz := Lib.hid (HB_3.out.trans (hb.mono HB_3.out.size))
        clear hb v1n v1z v2n v2z
        go_wp2
        go_ret
        exact ⟨rfl, HBz.out⟩
      have s0 : decide ((c1.toNat : Int) < 33) = false := by simp; omega
      by_cases g1 : 126 < c1.toNat
      · have s1 : decide ((126 : Int) < (c1.toNat : Int)) = true := by simp; omega
        go_wp2_with fail
        refine (works_calls _).mono ?_
        rintro e wz ⟨rfl, hb⟩
        have HBz := Lib.hid (HB_3.out.trans (hb.mono HB_3.out.size))
        clear hb v1n v1z v2n v2z
        go_wp2
        go_ret
        exact ⟨rfl, HBz.out⟩
      have s1 : decide ((126 : Int) < (c1.toNat : Int)) = false := by simp; omega
      by_cases g2 : c2.toNat < 33
      · have s2 : decide ((c2.toNat : Int) < 33) = true := by simp; omega
        go_wp2_with fail
        refine (works_calls _).mono ?_
        rintro e wz ⟨rfl, hb⟩
        have HBz := Lib.hid (HB_3.out.trans (hb.mono HB_3.out.size))
        clear hb v1n v1z v2n v2z
        go_wp2
        go_ret
        exact ⟨rfl, HBz.out⟩
      have s2 : decide ((c2.toNat : Int) < 33) = false := by simp; omega
      by_cases g3 : 126 < c2.toNat
      · have s3 : decide ((126 : Int) < (c2.toNat : Int)) = true := by simp; omega
        go_wp2_with fail
        refine (works_calls _).mono ?_
        rintro e wz ⟨rfl, hb⟩
        have HBz := Lib.hid (HB_3.out.trans (hb.mono HB_3.out.size))
        clear hb v1n v1z v2n v2z
        go_wp2
        go_ret
        exact ⟨rfl, HBz.out⟩
      have s3 : decide ((126 : Int) < (c2.toNat : Int)) = false := by simp; omega
      have HG : Hid (∀ r, r < j + 1 → (33 ≤ (x1.nm.getD r 0).toNat ∧ (x1.nm.getD r 0).toNat ≤ 126) ∧ (33 ≤ (x2.nm.getD r 0).toNat ∧ (x2.nm.getD r 0).toNat ≤ 126)) := Lib.hid (fun r hr => by
        by_cases e : r = j
        · subst e; rw [← hc1.out, ← hc2.out]; omega
        · exact hgood.out r (by omega))
      have HJ : Hid (j + 1 ≤ nn1) := Lib.hid hlt
      go_wp2
      go_roundw
      case rel => exact ⟨j + 1, HJ.out, by go_num, HG, hbe⟩
      case measure => have := HJ.out; simp [intOf]; omega
    · obtain rfl : j = nn1 := by omega
      have hdl : decide ((j : Int) < (j : Int)) = false := by simp
      have HL1 : Hid (x1.nm.all letB = true) := Lib.hid (by
        rw [List.all_eq_true]
        intro c hc
        obtain ⟨r, hr, rfl⟩ := List.getElem_of_mem hc
        have := (hgood.out r (by rw [hnn1.out]; exact hr)).1
        simp only [List.getD, List.getElem?_eq_getElem hr, Option.getD_some] at this
        unfold letB
        rw [decide_eq_true_iff]
        omega)
      have HL2 : Hid (x2.nm.all letB = true) := Lib.hid (by
        rw [List.all_eq_true]
        intro c hc
        obtain ⟨r, hr, rfl⟩ := List.getElem_of_mem hc
        have := (hgood.out r (by rw [hnn2.out]; exact hr)).2
        simp only [List.getD, List.getElem?_eq_getElem hr, Option.getD_some] at this
        unfold letB
        rw [decide_eq_true_iff]
        omega)
      have v1n := R1_3.out.cell 0 (.string S1) (HX1.out.1)
      have v1t0 := R1_3.out.cell 18 (.int .u16 x1.t.y) (HX1.out.2.2.1)
      have v1t1 := R1_3.out.cell 19 (.int .u8 x1.t.mo) (HX1.out.2.2.2.1)
      have v1t2 := R1_3.out.cell 20 (.int .u8 x1.t.d) (HX1.out.2.2.2.2.1)
      have v1t3 := R1_3.out.cell 21 (.int .u8 x1.t.h) (HX1.out.2.2.2.2.2.1)
      have v1t4 := R1_3.out.cell 22 (.int .u8 x1.t.mi) (HX1.out.2.2.2.2.2.2.1)
      have v1t5 := R1_3.out.cell 23 (.int .u8 x1.t.s) (HX1.out.2.2.2.2.2.2.2.1)
      have v1z := R1_3.out.lt
      go_wp2_with fail
      refine (HR1.out _).mono ?_
      rintro e w4 ⟨rfl, hb⟩
      have HB_4 := Lib.hid (HB_3.out.trans (hb.mono HB_3.out.size))
      have V1_4 := Lib.hid (Byt.below V1_3.out hb)
      have V2_4 := Lib.hid (Byt.below V2_3.out hb)
      have R1_4 := Lib.hid (RowAt.below R1_3.out hb)
      have R2_4 := Lib.hid (RowAt.below R2_3.out hb)
      clear hb v1n v1t0 v1t1 v1t2 v1t3 v1t4 v1t5 v1z
      cases q1
      · skip
        go_wp2_with fail
        refine (works_calls _).mono ?_
        rintro e wz ⟨rfl, hb⟩
        have HBz := Lib.hid (HB_4.out.trans (hb.mono HB_4.out.size))
        clear hb
        go_wp2
        go_ret
        exact ⟨rfl, HBz.out⟩
      have v2t0 := R2_4.out.cell 18 (.int .u16 x2.t.y) (HX2.out.2.2.1)
      have v2t1 := R2_4.out.cell 19 (.int .u8 x2.t.mo) (HX2.out.2.2.2.1)
      have v2t2 := R2_4.out.cell 20 (.int .u8 x2.t.d) (HX2.out.2.2.2.2.1)
      have v2t3 := R2_4.out.cell 21 (.int .u8 x2.t.h) (HX2.out.2.2.2.2.2.1)
      have v2t4 := R2_4.out.cell 22 (.int .u8 x2.t.mi) (HX2.out.2.2.2.2.2.2.1)
      have v2t5 := R2_4.out.cell 23 (.int .u8 x2.t.s) (HX2.out.2.2.2.2.2.2.2.1)
      have v2z := R2_4.out.lt
      go_wp2_with fail
      refine (HR2.out _).mono ?_
      rintro e w5 ⟨rfl, hb⟩
      have HB_5 := Lib.hid (HB_4.out.trans (hb.mono HB_4.out.size))
      have V1_5 := Lib.hid (Byt.below V1_4.out hb)
      have V2_5 := Lib.hid (Byt.below V2_4.out hb)
      have R1_5 := Lib.hid (RowAt.below R1_4.out hb)
      have R2_5 := Lib.hid (RowAt.below R2_4.out hb)
      clear hb v2t0 v2t1 v2t2 v2t3 v2t4 v2t5 v2z
      cases q2
      · skip
        go_wp2_with fail
        refine (works_calls _).mono ?_
        rintro e wz ⟨rfl, hb⟩
        have HBz := Lib.hid (HB_5.out.trans (hb.mono HB_5.out.size))
        clear hb
        go_wp2
        go_ret
        exact ⟨rfl, HBz.out⟩
      go_wp2_with fail
      refine' wp_region_grows (by kernel_rfl) (fun w' => Hid (RowAt w' (w.heap.size) X1) ∧ Hid (RowAt w' (w.heap.size + 1) X2) ∧ Hid (Below w.heap.size w w') ∧ Hid (Byt w' (.slice xd1 nd1 cd1) x1.d) ∧ Hid (Byt w' (.slice xd2 nd1 cd2) x2.d) ∧ Hid True) [isV _, isV _, isV _, isV _, isV _, isV _, isV _, isV _, isV _, isV _, fun v w' => Byt w' v x1.d, fun v w' => ∃ x c, v = .slice x m1 c ∧ Byt w' (.slice x m1 c) Fx1, fun v w' => ∃ x c, v = .slice x m1 c ∧ Byt w' (.slice x m1 c) Fx1] 155 [[], [(0, some 83)], [], [(2, some 85)], [], [(4, some 87)], [], [(6, some 89)], [], [(8, some 91)], [(9, some 92)], [(1, some 84), (3, some 86), (5, some 88), (7, some 90), (10, some 93)], [(11, some 94)]] [(0, some 83), (1, some 84), (2, some 85), (3, some 86), (4, some 87), (5, some 88), (6, some 89), (7, some 90), (8, some 91), (9, some 92), (10, some 93), (11, some 94), (12, some 6)] rfl (by kernel_rfl) ⟨fun _ _ _ _ h => h, fun _ _ _ _ h => h, fun _ _ _ _ h => h, fun _ _ _ _ h => h, fun _ _ _ _ h => h, fun _ _ _ _ h => h, fun _ _ _ _ h => h, fun _ _ _ _ h => h, fun _ _ _ _ h => h, fun _ _ _ _ h => h, fun _ _ _ hg h => Byt.below h hg, fun _ _ _ hg ⟨x, c, e, h⟩ => ⟨x, c, e, Byt.below h hg⟩, fun _ _ _ hg ⟨x, c, e, h⟩ => ⟨x, c, e, Byt.below h hg⟩, trivial⟩ (fun _ a a' _ e h => by cases a; cases a'; cases e; exact h) ?hS ?hsteps ?hend
      case hS =>
        intro w' hg
        exact ⟨Lib.hid ((R1_5.out.drew).below hg), Lib.hid ((R2_5.out.drew).below hg), Lib.hid (HB_5.out.drew.trans (hg.mono HB_5.out.size)), Lib.hid ((V1_5.out.below (Below.refl _ _).drew).below hg), Lib.hid ((V2_5.out.below (Below.refl _ _).drew).below hg), Lib.hid trivial⟩
      case hsteps =>
        refine ⟨?_, ?_, ?_, ?_, ?_, ?_, ?_, ?_, ?_, ?_, ?_, ?_, ?_, trivial⟩
        · intro w' hs
          simp only [AllV, rgPut]
          clear hs
          first
            | (refine OpOk.off ?_ ?_ <;> rfl)
            | (refine OpOk.run ?_ (fun K hK => ?_)
               · rfl
               go_simp
               refine hK.out _ _ (Grows.refl _) ?_
               exact rfl)
        · -- 1: Op.load 9 t83
          intro w' hs
          simp only [AllV, rdP, isV, forall_eq, rgPut, Act.put, List.setIfInBounds_toArray, List.set_cons_zero, List.set_cons_succ]
          obtain ⟨hr1, hr2, hbb, h1, h2, hx⟩ := hs
          have cc := hr1.out.cell 0 (.string S1) (HX1.out.1)
          have zz := hr1.out.lt
          refine OpOk.run ?_ (fun K hK => ?_)
          · rfl
          go_simp
          refine hK.out _ _ (Grows.refl _) ?_
          exact rfl
        · intro w' hs
          simp only [AllV, rgPut]
          clear hs
          first
            | (refine OpOk.off ?_ ?_ <;> rfl)
            | (refine OpOk.run ?_ (fun K hK => ?_)
               · rfl
               go_simp
               refine hK.out _ _ (Grows.refl _) ?_
               exact rfl)
        · -- 3: Op.load 27 t85
          intro w' hs
          simp only [AllV, rdP, isV, forall_eq, rgPut, Act.put, List.setIfInBounds_toArray, List.set_cons_zero, List.set_cons_succ]
          obtain ⟨hr1, hr2, hbb, h1, h2, hx⟩ := hs
          refine OpOk.run ?_ (fun K hK => ?_)
          · rfl
          refine wp_load_mid 27 _ rfl (w.heap.size) 1 rfl (x1.g.map b8) _ (var_range hr1.out (HX1.out.2.2.2.2.2.2.2.2.2)) Try.underlying27 rfl (by rw [List.length_map, HO1.out.g]; kernel_rfl) ?_
          refine hK.out _ _ (Grows.refl _) ?_
          exact rfl
        · intro w' hs
          simp only [AllV, rgPut]
          clear hs
          first
            | (refine OpOk.off ?_ ?_ <;> rfl)
            | (refine OpOk.run ?_ (fun K hK => ?_)
               · rfl
               go_simp
               refine hK.out _ _ (Grows.refl _) ?_
               exact rfl)
        · -- 5: Op.load 28 t87
          intro w' hs
          simp only [AllV, rdP, isV, forall_eq, rgPut, Act.put, List.setIfInBounds_toArray, List.set_cons_zero, List.set_cons_succ]
          obtain ⟨hr1, hr2, hbb, h1, h2, hx⟩ := hs
          have cc := hr1.out.cell 17 (.int .u32 (x1.a : Int)) (HX1.out.2.1)
          have zz := hr1.out.lt
          refine OpOk.run ?_ (fun K hK => ?_)
          · rfl
          go_simp
          refine hK.out _ _ (Grows.refl _) ?_
          exact rfl
        · intro w' hs
          simp only [AllV, rgPut]
          clear hs
          first
            | (refine OpOk.off ?_ ?_ <;> rfl)
            | (refine OpOk.run ?_ (fun K hK => ?_)
               · rfl
               go_simp
               refine hK.out _ _ (Grows.refl _) ?_
               exact rfl)
        · -- 7: Op.load 25 t89
          intro w' hs
          simp only [AllV, rdP, isV, forall_eq, rgPut, Act.put, List.setIfInBounds_toArray, List.set_cons_zero, List.set_cons_succ]
          obtain ⟨hr1, hr2, hbb, h1, h2, hx⟩ := hs
          have cc0 := hr1.out.cell 18 (.int .u16 x1.t.y) (HX1.out.2.2.1)
          have cc1 := hr1.out.cell 19 (.int .u8 x1.t.mo) (HX1.out.2.2.2.1)
          have cc2 := hr1.out.cell 20 (.int .u8 x1.t.d) (HX1.out.2.2.2.2.1)
          have cc3 := hr1.out.cell 21 (.int .u8 x1.t.h) (HX1.out.2.2.2.2.2.1)
          have cc4 := hr1.out.cell 22 (.int .u8 x1.t.mi) (HX1.out.2.2.2.2.2.2.1)
          have cc5 := hr1.out.cell 23 (.int .u8 x1.t.s) (HX1.out.2.2.2.2.2.2.2.1)
          have zz := hr1.out.lt
          refine OpOk.run ?_ (fun K hK => ?_)
          · rfl
          go_simp
          refine hK.out _ _ (Grows.refl _) ?_
          exact rfl
        · intro w' hs
          simp only [AllV, rgPut]
          clear hs
          first
            | (refine OpOk.off ?_ ?_ <;> rfl)
            | (refine OpOk.run ?_ (fun K hK => ?_)
               · rfl
               go_simp
               refine hK.out _ _ (Grows.refl _) ?_
               exact rfl)
        · -- 9: Op.load 22 t91
          intro w' hs
          simp only [AllV, rdP, isV, forall_eq, rgPut, Act.put, List.setIfInBounds_toArray, List.set_cons_zero, List.set_cons_succ]
          obtain ⟨hr1, hr2, hbb, h1, h2, hx⟩ := hs
          have cc := hr1.out.cell 56 (.slice xd1 nd1 cd1) (HX1.out.2.2.2.2.2.2.2.2.1)
          have zz := hr1.out.lt
          refine OpOk.run ?_ (fun K hK => ?_)
          · rfl
          go_simp
          refine hK.out _ _ (Grows.refl _) ?_
          exact rfl
        · -- 10: Op.call { value (Operand.func 8), args := #[t92], argTypes :
          intro w' hs
          simp only [AllV, rdP, isV, forall_eq, rgPut, Act.put, List.setIfInBounds_toArray, List.set_cons_zero, List.set_cons_succ]
          obtain ⟨hr1, hr2, hbb, h1, h2, hx⟩ := hs
          refine OpOk.run ?_ (fun K hK => ?_)
          · rfl
          go_simp
          go_at_call 8
          refine (HTW1.out _ _ h1.out).mono ?_
          rintro e w1 ⟨x, c, rfl, ho, hb⟩
          refine hK.out _ _ hb ?_
          exact ho.byt
        · -- 11: Op.call { value (Operand.func 14), args := #[t84, t86, t88, 
          intro w' hs
          simp only [AllV, rdP, isV, forall_eq, rgPut, Act.put, List.setIfInBounds_toArray, List.set_cons_zero, List.set_cons_succ]
          obtain ⟨hr1, hr2, hbb, h1, h2, hx⟩ := hs
          intro v hv
          refine OpOk.run ?_ (fun K hK => ?_)
          · rfl
          go_simp
          go_at_call 14
          refine (HTX1.out _ _ hv).mono ?_
          rintro e w1 ⟨x, c, rfl, ho, hb⟩
          refine hK.out _ _ hb ?_
          exact ⟨x, c, rfl, ho.byt⟩
        · -- 12: Op.assign t94
          intro w' hs
          simp only [AllV, rdP, rgPut, Act.put, List.setIfInBounds_toArray, List.set_cons_zero, List.set_cons_succ]
          intro v hv
          refine OpOk.run ?_ (fun K hK => ?_)
          · rfl
          go_simp
          refine hK.out _ _ (Grows.refl _) ?_
          exact hv
      case hend =>
        intro w' hs
        simp only [AllV, rdP, isV, forall_eq, rgPut, Act.put, List.setIfInBounds_toArray, List.set_cons_zero, List.set_cons_succ]
        intro a1 b1 a2 b2 a3 b3
        clear b1 b2
        obtain ⟨xt1, ct1, rfl, hx1⟩ := b3
        obtain ⟨hr1, hr2, hbb, h1, h2, hx⟩ := hs
        have HB_6 := hbb
        have R1_6 := hr1
        have R2_6 := hr2
        have V1_6 := h1
        have V2_6 := h2
        have T1_6 := Lib.hid hx1
        clear hbb hr1 hr2 h1 h2 hx1 hx
        go_wp2_with fail
        refine' wp_region_grows (by kernel_rfl) (fun w' => Hid (RowAt w' (w.heap.size) X1) ∧ Hid (RowAt w' (w.heap.size + 1) X2) ∧ Hid (Below w.heap.size w w') ∧ Hid (Byt w' (.slice xd1 nd1 cd1) x1.d) ∧ Hid (Byt w' (.slice xd2 nd1 cd2) x2.d) ∧ Hid (Byt w' (.slice xt1 m1 ct1) Fx1)) [isV _, isV _, isV _, isV _, isV _, isV _, isV _, isV _, isV _, isV _, fun v w' => Byt w' v x2.d, fun v w' => ∃ x c, v = .slice x m2 c ∧ Byt w' (.slice x m2 c) Fx2, fun v w' => ∃ x c, v = .slice x m2 c ∧ Byt w' (.slice x m2 c) Fx2] 155 [[], [(0, some 95)], [], [(2, some 97)], [], [(4, some 99)], [], [(6, some 101)], [], [(8, some 103)], [(9, some 104)], [(1, some 96), (3, some 98), (5, some 100), (7, some 102), (10, some 105)], [(11, some 106)]] [(0, some 95), (1, some 96), (2, some 97), (3, some 98), (4, some 99), (5, some 100), (6, some 101), (7, some 102), (8, some 103), (9, some 104), (10, some 105), (11, some 106), (12, some 7)] rfl (by kernel_rfl) ⟨fun _ _ _ _ h => h, fun _ _ _ _ h => h, fun _ _ _ _ h => h, fun _ _ _ _ h => h, fun _ _ _ _ h => h, fun _ _ _ _ h => h, fun _ _ _ _ h => h, fun _ _ _ _ h => h, fun _ _ _ _ h => h, fun _ _ _ _ h => h, fun _ _ _ hg h => Byt.below h hg, fun _ _ _ hg ⟨x, c, e, h⟩ => ⟨x, c, e, Byt.below h hg⟩, fun _ _ _ hg ⟨x, c, e, h⟩ => ⟨x, c, e, Byt.below h hg⟩, trivial⟩ (fun _ a a' _ e h => by cases a; cases a'; cases e; exact h) ?hS ?hsteps ?hend
        case hS =>
          intro w' hg
          exact ⟨Lib.hid ((R1_6.out.drew).below hg), Lib.hid ((R2_6.out.drew).below hg), Lib.hid (HB_6.out.drew.trans (hg.mono HB_6.out.size)), Lib.hid ((V1_6.out.below (Below.refl _ _).drew).below hg), Lib.hid ((V2_6.out.below (Below.refl _ _).drew).below hg), Lib.hid ((T1_6.out.below (Below.refl _ _).drew).below hg)⟩
        case hsteps =>
          refine ⟨?_, ?_, ?_, ?_, ?_, ?_, ?_, ?_, ?_, ?_, ?_, ?_, ?_, trivial⟩
          · intro w' hs
            simp only [AllV, rgPut]
            clear hs
            first
              | (refine OpOk.off ?_ ?_ <;> rfl)
              | (refine OpOk.run ?_ (fun K hK => ?_)
                 · rfl
                 go_simp
                 refine hK.out _ _ (Grows.refl _) ?_
                 exact rfl)
          · -- 1: Op.load 9 t95
            intro w' hs
            simp only [AllV, rdP, isV, forall_eq, rgPut, Act.put, List.setIfInBounds_toArray, List.set_cons_zero, List.set_cons_succ]
            obtain ⟨hr1, hr2, hbb, h1, h2, hx⟩ := hs
            have cc := hr2.out.cell 0 (.string S2) (HX2.out.1)
            have zz := hr2.out.lt
            refine OpOk.run ?_ (fun K hK => ?_)
            · rfl
            go_simp
            refine hK.out _ _ (Grows.refl _) ?_
            exact rfl
          · intro w' hs
            simp only [AllV, rgPut]
            clear hs
            first
              | (refine OpOk.off ?_ ?_ <;> rfl)
              | (refine OpOk.run ?_ (fun K hK => ?_)
                 · rfl
                 go_simp
                 refine hK.out _ _ (Grows.refl _) ?_
                 exact rfl)
          · -- 3: Op.load 27 t97
            intro w' hs
            simp only [AllV, rdP, isV, forall_eq, rgPut, Act.put, List.setIfInBounds_toArray, List.set_cons_zero, List.set_cons_succ]
            obtain ⟨hr1, hr2, hbb, h1, h2, hx⟩ := hs
            refine OpOk.run ?_ (fun K hK => ?_)
            · rfl
            refine wp_load_mid 27 _ rfl (w.heap.size + 1) 1 rfl (x2.g.map b8) _ (var_range hr2.out (HX2.out.2.2.2.2.2.2.2.2.2)) Try.underlying27 rfl (by rw [List.length_map, HO2.out.g]; kernel_rfl) ?_
            refine hK.out _ _ (Grows.refl _) ?_
            exact rfl
          · intro w' hs
            simp only [AllV, rgPut]
            clear hs
            first
              | (refine OpOk.off ?_ ?_ <;> rfl)
              | (refine OpOk.run ?_ (fun K hK => ?_)
                 · rfl
                 go_simp
                 refine hK.out _ _ (Grows.refl _) ?_
                 exact rfl)
          · -- 5: Op.load 28 t99
            intro w' hs
            simp only [AllV, rdP, isV, forall_eq, rgPut, Act.put, List.setIfInBounds_toArray, List.set_cons_zero, List.set_cons_succ]
            obtain ⟨hr1, hr2, hbb, h1, h2, hx⟩ := hs
            have cc := hr2.out.cell 17 (.int .u32 (x2.a : Int)) (HX2.out.2.1)
            have zz := hr2.out.lt
            refine OpOk.run ?_ (fun K hK => ?_)
            · rfl
            go_simp
            refine hK.out _ _ (Grows.refl _) ?_
            exact rfl
          · intro w' hs
            simp only [AllV, rgPut]
            clear hs
            first
              | (refine OpOk.off ?_ ?_ <;> rfl)
              | (refine OpOk.run ?_ (fun K hK => ?_)
                 · rfl
                 go_simp
                 refine hK.out _ _ (Grows.refl _) ?_
                 exact rfl)
          · -- 7: Op.load 25 t101
            intro w' hs
            simp only [AllV, rdP, isV, forall_eq, rgPut, Act.put, List.setIfInBounds_toArray, List.set_cons_zero, List.set_cons_succ]
            obtain ⟨hr1, hr2, hbb, h1, h2, hx⟩ := hs
            have cc0 := hr2.out.cell 18 (.int .u16 x2.t.y) (HX2.out.2.2.1)
            have cc1 := hr2.out.cell 19 (.int .u8 x2.t.mo) (HX2.out.2.2.2.1)
            have cc2 := hr2.out.cell 20 (.int .u8 x2.t.d) (HX2.out.2.2.2.2.1)
            have cc3 := hr2.out.cell 21 (.int .u8 x2.t.h) (HX2.out.2.2.2.2.2.1)
            have cc4 := hr2.out.cell 22 (.int .u8 x2.t.mi) (HX2.out.2.2.2.2.2.2.1)
            have cc5 := hr2.out.cell 23 (.int .u8 x2.t.s) (HX2.out.2.2.2.2.2.2.2.1)
            have zz := hr2.out.lt
            refine OpOk.run ?_ (fun K hK => ?_)
            · rfl
            go_simp
            refine hK.out _ _ (Grows.refl _) ?_
            exact rfl
          · intro w' hs
            simp only [AllV, rgPut]
            clear hs
            first
              | (refine OpOk.off ?_ ?_ <;> rfl)
              | (refine OpOk.run ?_ (fun K hK => ?_)
                 · rfl
                 go_simp
                 refine hK.out _ _ (Grows.refl _) ?_
                 exact rfl)
          · -- 9: Op.load 22 t103
            intro w' hs
            simp only [AllV, rdP, isV, forall_eq, rgPut, Act.put, List.setIfInBounds_toArray, List.set_cons_zero, List.set_cons_succ]
            obtain ⟨hr1, hr2, hbb, h1, h2, hx⟩ := hs
            have cc := hr2.out.cell 56 (.slice xd2 nd1 cd2) (HX2.out.2.2.2.2.2.2.2.2.1)
            have zz := hr2.out.lt
            refine OpOk.run ?_ (fun K hK => ?_)
            · rfl
            go_simp
            refine hK.out _ _ (Grows.refl _) ?_
            exact rfl
          · -- 10: Op.call { value (Operand.func 8), args := #[t104], argTypes 
            intro w' hs
            simp only [AllV, rdP, isV, forall_eq, rgPut, Act.put, List.setIfInBounds_toArray, List.set_cons_zero, List.set_cons_succ]
            obtain ⟨hr1, hr2, hbb, h1, h2, hx⟩ := hs
            refine OpOk.run ?_ (fun K hK => ?_)
            · rfl
            go_simp
            go_at_call 8
            refine (HTW2.out _ _ h2.out).mono ?_
            rintro e w1 ⟨x, c, rfl, ho, hb⟩
            refine hK.out _ _ hb ?_
            exact ho.byt
          · -- 11: Op.call { value (Operand.func 14), args := #[t96, t98, t100,
            intro w' hs
            simp only [AllV, rdP, isV, forall_eq, rgPut, Act.put, List.setIfInBounds_toArray, List.set_cons_zero, List.set_cons_succ]
            obtain ⟨hr1, hr2, hbb, h1, h2, hx⟩ := hs
            intro v hv
            refine OpOk.run ?_ (fun K hK => ?_)
            · rfl
            go_simp
            go_at_call 14
            refine (HTX2.out _ _ hv).mono ?_
            rintro e w1 ⟨x, c, rfl, ho, hb⟩
            refine hK.out _ _ hb ?_
            exact ⟨x, c, rfl, ho.byt⟩
          · -- 12: Op.assign t106
            intro w' hs
            simp only [AllV, rdP, rgPut, Act.put, List.setIfInBounds_toArray, List.set_cons_zero, List.set_cons_succ]
            intro v hv
            refine OpOk.run ?_ (fun K hK => ?_)
            · rfl
            go_simp
            refine hK.out _ _ (Grows.refl _) ?_
            exact hv
        case hend =>
          intro w' hs
          simp only [AllV, rdP, isV, forall_eq, rgPut, Act.put, List.setIfInBounds_toArray, List.set_cons_zero, List.set_cons_succ]
          intro a1 b1 a2 b2 a3 b3
          clear b1 b2
          obtain ⟨xt2, ct2, rfl, hx2⟩ := b3
          obtain ⟨hr1, hr2, hbb, h1, h2, hx⟩ := hs
          have HB_7 := hbb
          have R1_7 := hr1
          have R2_7 := hr2
          have V1_7 := h1
          have V2_7 := h2
          have T2_7 := Lib.hid hx2
          have T1_7 := hx
          clear hbb hr1 hr2 h1 h2 hx2 hx
          have hlen : m1 = m2 := by
            rw [hm1.out, hm2.out, hFx1.out, hFx2.out, dsX_length, dsX_length, HO1.out.g, HO2.out.g, ← hnd1.out, ← hnd2.out]
            unfold wideL
            rw [if_pos HL1.out, if_pos HL2.out, dbl_length, dbl_length, ← hnn1.out, ← hnn2.out]
          have tlen : ((m1 : Int) == (m2 : Int)) = true := by rw [hlen]; simp
          clear hlen
          have HAP := Lib.hid (ds_apart x1.nm x2.nm x1.g x2.g x1.a x2.a x1.t x2.t x1.d x2.d (by rw [← hnn1.out, ← hnn2.out]) HL1.out HL2.out (by rw [HO1.out.g, HO2.out.g]) HO1.out.a HO2.out.a HO1.out.t HO2.out.t)
          rw [← hFx1.out, ← hFx2.out] at HAP
          have HSE := Lib.hid (sOf_beq x1.nm x2.nm)
          rw [← hS1.out, ← hS2.out] at HSE
          have HGE := Lib.hid (fun W => run_gid_eq x1.g x2.g HO1.out.g HO2.out.g W)
          have HTE := Lib.hid (fun W => run_tm_eq x1.t x2.t W)
          unfold tmV at HTE
          obtain ⟨G1, hG1⟩ : ∃ G, Hid (G = (x1.g.map b8).toArray) := ⟨_, Lib.hid rfl⟩
          obtain ⟨G2, hG2⟩ : ∃ G, Hid (G = (x2.g.map b8).toArray) := ⟨_, Lib.hid rfl⟩
          rw [← hG1.out, ← hG2.out] at HGE
          rcases Classical.em (x1.nm = x2.nm) with w0 | w0
          rotate_left
          · skip
            have hne : ¬ (Fx1 = Fx2) := fun e => w0 (HAP.out.1 e).1
            have HNE := Lib.hid hne
            clear hne
            have v1n := R1_7.out.cell 0 (.string S1) (HX1.out.1)
            have v1z := R1_7.out.lt
            have v2n := R2_7.out.cell 0 (.string S2) (HX2.out.1)
            have v2z := R2_7.out.lt
            have en : (S1.toList == S2.toList) = false := by rw [HSE.out]; exact decide_eq_false w0
            go_wp2_with fail
            refine (same_form Fx1 Fx2 false (decide_eq_false HNE.out) _ _ _ T1_7.out T2_7.out).mono ?_
            rintro e w' ⟨rfl, rfl⟩
            go_wp2_with fail
            refine (works_calls _).mono ?_
            rintro e wz ⟨rfl, hb⟩
            have HBz := Lib.hid (HB_7.out.trans (hb.mono HB_7.out.size))
            clear hb v1n v1z v2n v2z
            go_wp2
            go_ret
            exact ⟨rfl, HBz.out⟩
          rcases Classical.em (x1.g = x2.g) with w1 | w1
          rotate_left
          · skip
            have hne : ¬ (Fx1 = Fx2) := fun e => w1 (HAP.out.1 e).2.1
            have HNE := Lib.hid hne
            clear hne
            have v1n := R1_7.out.cell 0 (.string S1) (HX1.out.1)
            have v1z := R1_7.out.lt
            have v2n := R2_7.out.cell 0 (.string S2) (HX2.out.1)
            have v2z := R2_7.out.lt
            have en : (S1.toList == S2.toList) = true := by rw [HSE.out]; exact decide_eq_true w0
            have eg := HGE.out
            rw [decide_eq_false w1] at eg
            go_wp2_with (first | (refine wpList_load_mid_g rfl 27 _ rfl (w.heap.size) 1 rfl (x1.g.map b8) _ (var_range R1_7.out (HX1.out.2.2.2.2.2.2.2.2.2)) Try.underlying27 rfl (by rw [List.length_map, HO1.out.g]; kernel_rfl) ?_; rw [← hG1.out]) | (refine wpList_load_mid_g rfl 27 _ rfl (w.heap.size + 1) 1 rfl (x2.g.map b8) _ (var_range R2_7.out (HX2.out.2.2.2.2.2.2.2.2.2)) Try.underlying27 rfl (by rw [List.length_map, HO2.out.g]; kernel_rfl) ?_; rw [← hG2.out]))
            refine (same_form Fx1 Fx2 false (decide_eq_false HNE.out) _ _ _ T1_7.out T2_7.out).mono ?_
            rintro e w' ⟨rfl, rfl⟩
            go_wp2_with fail
            refine (works_calls _).mono ?_
            rintro e wz ⟨rfl, hb⟩
            have HBz := Lib.hid (HB_7.out.trans (hb.mono HB_7.out.size))
            clear hb v1n v1z v2n v2z
            go_wp2
            go_ret
            exact ⟨rfl, HBz.out⟩
          rcases Classical.em (x1.a = x2.a) with w2 | w2
          rotate_left
          · skip
            have hne : ¬ (Fx1 = Fx2) := fun e => w2 (HAP.out.1 e).2.2.1
            have HNE := Lib.hid hne
            clear hne
            have v1n := R1_7.out.cell 0 (.string S1) (HX1.out.1)
            have v1z := R1_7.out.lt
            have v2n := R2_7.out.cell 0 (.string S2) (HX2.out.1)
            have v2z := R2_7.out.lt
            have en : (S1.toList == S2.toList) = true := by rw [HSE.out]; exact decide_eq_true w0
            have eg := HGE.out
            rw [decide_eq_true w1] at eg
            have v1a := R1_7.out.cell 17 (.int .u32 (x1.a : Int)) (HX1.out.2.1)
            have v1z := R1_7.out.lt
            have v2a := R2_7.out.cell 17 (.int .u32 (x2.a : Int)) (HX2.out.2.1)
            have v2z := R2_7.out.lt
            have ea : ((x1.a : Int) == (x2.a : Int)) = false := by simp; omega
            go_wp2_with (first | (refine wpList_load_mid_g rfl 27 _ rfl (w.heap.size) 1 rfl (x1.g.map b8) _ (var_range R1_7.out (HX1.out.2.2.2.2.2.2.2.2.2)) Try.underlying27 rfl (by rw [List.length_map, HO1.out.g]; kernel_rfl) ?_; rw [← hG1.out]) | (refine wpList_load_mid_g rfl 27 _ rfl (w.heap.size + 1) 1 rfl (x2.g.map b8) _ (var_range R2_7.out (HX2.out.2.2.2.2.2.2.2.2.2)) Try.underlying27 rfl (by rw [List.length_map, HO2.out.g]; kernel_rfl) ?_; rw [← hG2.out]))
            refine (same_form Fx1 Fx2 false (decide_eq_false HNE.out) _ _ _ T1_7.out T2_7.out).mono ?_
            rintro e w' ⟨rfl, rfl⟩
            go_wp2_with fail
            refine (works_calls _).mono ?_
            rintro e wz ⟨rfl, hb⟩
            have HBz := Lib.hid (HB_7.out.trans (hb.mono HB_7.out.size))
            clear hb v1n v1z v2n v2z v1a v2a
            go_wp2
            go_ret
            exact ⟨rfl, HBz.out⟩
          rcases Classical.em (x1.t = x2.t) with w3 | w3
          rotate_left
          · skip
            have hne : ¬ (Fx1 = Fx2) := fun e => w3 (HAP.out.1 e).2.2.2.1
            have HNE := Lib.hid hne
            clear hne
            have v1n := R1_7.out.cell 0 (.string S1) (HX1.out.1)
            have v1z := R1_7.out.lt
            have v2n := R2_7.out.cell 0 (.string S2) (HX2.out.1)
            have v2z := R2_7.out.lt
            have en : (S1.toList == S2.toList) = true := by rw [HSE.out]; exact decide_eq_true w0
            have eg := HGE.out
            rw [decide_eq_true w1] at eg
            have v1a := R1_7.out.cell 17 (.int .u32 (x1.a : Int)) (HX1.out.2.1)
            have v1z := R1_7.out.lt
            have v2a := R2_7.out.cell 17 (.int .u32 (x2.a : Int)) (HX2.out.2.1)
            have v2z := R2_7.out.lt
            have ea : ((x1.a : Int) == (x2.a : Int)) = true := by simp; omega
            have v1t0 := R1_7.out.cell 18 (.int .u16 x1.t.y) (HX1.out.2.2.1)
            have v1t1 := R1_7.out.cell 19 (.int .u8 x1.t.mo) (HX1.out.2.2.2.1)
            have v1t2 := R1_7.out.cell 20 (.int .u8 x1.t.d) (HX1.out.2.2.2.2.1)
            have v1t3 := R1_7.out.cell 21 (.int .u8 x1.t.h) (HX1.out.2.2.2.2.2.1)
            have v1t4 := R1_7.out.cell 22 (.int .u8 x1.t.mi) (HX1.out.2.2.2.2.2.2.1)
            have v1t5 := R1_7.out.cell 23 (.int .u8 x1.t.s) (HX1.out.2.2.2.2.2.2.2.1)
            have v1z := R1_7.out.lt
            have v2t0 := R2_7.out.cell 18 (.int .u16 x2.t.y) (HX2.out.2.2.1)
            have v2t1 := R2_7.out.cell 19 (.int .u8 x2.t.mo) (HX2.out.2.2.2.1)
            have v2t2 := R2_7.out.cell 20 (.int .u8 x2.t.d) (HX2.out.2.2.2.2.1)
            have v2t3 := R2_7.out.cell 21 (.int .u8 x2.t.h) (HX2.out.2.2.2.2.2.1)
            have v2t4 := R2_7.out.cell 22 (.int .u8 x2.t.mi) (HX2.out.2.2.2.2.2.2.1)
            have v2t5 := R2_7.out.cell 23 (.int .u8 x2.t.s) (HX2.out.2.2.2.2.2.2.2.1)
            have v2z := R2_7.out.lt
            have et := HTE.out
            rw [show eqT x1.t x2.t = false from by cases h : eqT x1.t x2.t with | false => rfl | true => exact absurd ((eqT_iff _ _).1 h) w3] at et
            go_wp2_with (first | (refine wpList_load_mid_g rfl 27 _ rfl (w.heap.size) 1 rfl (x1.g.map b8) _ (var_range R1_7.out (HX1.out.2.2.2.2.2.2.2.2.2)) Try.underlying27 rfl (by rw [List.length_map, HO1.out.g]; kernel_rfl) ?_; rw [← hG1.out]) | (refine wpList_load_mid_g rfl 27 _ rfl (w.heap.size + 1) 1 rfl (x2.g.map b8) _ (var_range R2_7.out (HX2.out.2.2.2.2.2.2.2.2.2)) Try.underlying27 rfl (by rw [List.length_map, HO2.out.g]; kernel_rfl) ?_; rw [← hG2.out]))
            refine (same_form Fx1 Fx2 false (decide_eq_false HNE.out) _ _ _ T1_7.out T2_7.out).mono ?_
            rintro e w' ⟨rfl, rfl⟩
            go_wp2_with fail
            refine (works_calls _).mono ?_
            rintro e wz ⟨rfl, hb⟩
            have HBz := Lib.hid (HB_7.out.trans (hb.mono HB_7.out.size))
            clear hb v1n v1z v2n v2z v1a v2a v1t0 v1t1 v1t2 v1t3 v1t4 v1t5 v2t0 v2t1 v2t2 v2t3 v2t4 v2t5
            go_wp2
            go_ret
            exact ⟨rfl, HBz.out⟩
          rcases Classical.em (x1.d = x2.d) with w4 | w4
          rotate_left
          · skip
            have hne : ¬ (Fx1 = Fx2) := fun e => w4 (HAP.out.1 e).2.2.2.2
            have HNE := Lib.hid hne
            clear hne
            have v1n := R1_7.out.cell 0 (.string S1) (HX1.out.1)
            have v1z := R1_7.out.lt
            have v2n := R2_7.out.cell 0 (.string S2) (HX2.out.1)
            have v2z := R2_7.out.lt
            have en : (S1.toList == S2.toList) = true := by rw [HSE.out]; exact decide_eq_true w0
            have eg := HGE.out
            rw [decide_eq_true w1] at eg
            have v1a := R1_7.out.cell 17 (.int .u32 (x1.a : Int)) (HX1.out.2.1)
            have v1z := R1_7.out.lt
            have v2a := R2_7.out.cell 17 (.int .u32 (x2.a : Int)) (HX2.out.2.1)
            have v2z := R2_7.out.lt
            have ea : ((x1.a : Int) == (x2.a : Int)) = true := by simp; omega
            have v1t0 := R1_7.out.cell 18 (.int .u16 x1.t.y) (HX1.out.2.2.1)
            have v1t1 := R1_7.out.cell 19 (.int .u8 x1.t.mo) (HX1.out.2.2.2.1)
            have v1t2 := R1_7.out.cell 20 (.int .u8 x1.t.d) (HX1.out.2.2.2.2.1)
            have v1t3 := R1_7.out.cell 21 (.int .u8 x1.t.h) (HX1.out.2.2.2.2.2.1)
            have v1t4 := R1_7.out.cell 22 (.int .u8 x1.t.mi) (HX1.out.2.2.2.2.2.2.1)
            have v1t5 := R1_7.out.cell 23 (.int .u8 x1.t.s) (HX1.out.2.2.2.2.2.2.2.1)
            have v1z := R1_7.out.lt
            have v2t0 := R2_7.out.cell 18 (.int .u16 x2.t.y) (HX2.out.2.2.1)
            have v2t1 := R2_7.out.cell 19 (.int .u8 x2.t.mo) (HX2.out.2.2.2.1)
            have v2t2 := R2_7.out.cell 20 (.int .u8 x2.t.d) (HX2.out.2.2.2.2.1)
            have v2t3 := R2_7.out.cell 21 (.int .u8 x2.t.h) (HX2.out.2.2.2.2.2.1)
            have v2t4 := R2_7.out.cell 22 (.int .u8 x2.t.mi) (HX2.out.2.2.2.2.2.2.1)
            have v2t5 := R2_7.out.cell 23 (.int .u8 x2.t.s) (HX2.out.2.2.2.2.2.2.2.1)
            have v2z := R2_7.out.lt
            have et := HTE.out
            rw [show eqT x1.t x2.t = true from (eqT_iff _ _).2 w3] at et
            have v1d := R1_7.out.cell 56 (.slice xd1 nd1 cd1) (HX1.out.2.2.2.2.2.2.2.2.1)
            have v1z := R1_7.out.lt
            have v2d := R2_7.out.cell 56 (.slice xd2 nd1 cd2) (HX2.out.2.2.2.2.2.2.2.2.1)
            have v2z := R2_7.out.lt
            go_wp2_with (first | (refine wpList_load_mid_g rfl 27 _ rfl (w.heap.size) 1 rfl (x1.g.map b8) _ (var_range R1_7.out (HX1.out.2.2.2.2.2.2.2.2.2)) Try.underlying27 rfl (by rw [List.length_map, HO1.out.g]; kernel_rfl) ?_; rw [← hG1.out]) | (refine wpList_load_mid_g rfl 27 _ rfl (w.heap.size + 1) 1 rfl (x2.g.map b8) _ (var_range R2_7.out (HX2.out.2.2.2.2.2.2.2.2.2)) Try.underlying27 rfl (by rw [List.length_map, HO2.out.g]; kernel_rfl) ?_; rw [← hG2.out]))
            refine (same_form x1.d x2.d false (decide_eq_false w4) _ _ _ V1_7.out V2_7.out).mono ?_
            rintro e w' ⟨rfl, rfl⟩
            go_wp2_with fail
            refine (same_form Fx1 Fx2 false (decide_eq_false HNE.out) _ _ _ T1_7.out T2_7.out).mono ?_
            rintro e w' ⟨rfl, rfl⟩
            go_wp2_with fail
            refine (works_calls _).mono ?_
            rintro e wz ⟨rfl, hb⟩
            have HBz := Lib.hid (HB_7.out.trans (hb.mono HB_7.out.size))
            clear hb v1n v1z v2n v2z v1a v2a v1t0 v1t1 v1t2 v1t3 v1t4 v1t5 v2t0 v2t1 v2t2 v2t3 v2t4 v2t5 v1d v2d
            go_wp2
            go_ret
            exact ⟨rfl, HBz.out⟩
          have hyes : Fx1 = Fx2 := HAP.out.2 ⟨w0, w1, w2, w3, w4⟩
          have HYE := Lib.hid hyes
          clear hyes
          have v1n := R1_7.out.cell 0 (.string S1) (HX1.out.1)
          have v1z := R1_7.out.lt
          have v2n := R2_7.out.cell 0 (.string S2) (HX2.out.1)
          have v2z := R2_7.out.lt
          have en : (S1.toList == S2.toList) = true := by rw [HSE.out]; exact decide_eq_true w0
          have eg := HGE.out
          rw [decide_eq_true w1] at eg
          have v1a := R1_7.out.cell 17 (.int .u32 (x1.a : Int)) (HX1.out.2.1)
          have v1z := R1_7.out.lt
          have v2a := R2_7.out.cell 17 (.int .u32 (x2.a : Int)) (HX2.out.2.1)
          have v2z := R2_7.out.lt
          have ea : ((x1.a : Int) == (x2.a : Int)) = true := by simp; omega
          have v1t0 := R1_7.out.cell 18 (.int .u16 x1.t.y) (HX1.out.2.2.1)
          have v1t1 := R1_7.out.cell 19 (.int .u8 x1.t.mo) (HX1.out.2.2.2.1)
          have v1t2 := R1_7.out.cell 20 (.int .u8 x1.t.d) (HX1.out.2.2.2.2.1)
          have v1t3 := R1_7.out.cell 21 (.int .u8 x1.t.h) (HX1.out.2.2.2.2.2.1)
          have v1t4 := R1_7.out.cell 22 (.int .u8 x1.t.mi) (HX1.out.2.2.2.2.2.2.1)
          have v1t5 := R1_7.out.cell 23 (.int .u8 x1.t.s) (HX1.out.2.2.2.2.2.2.2.1)
          have v1z := R1_7.out.lt
          have v2t0 := R2_7.out.cell 18 (.int .u16 x2.t.y) (HX2.out.2.2.1)
          have v2t1 := R2_7.out.cell 19 (.int .u8 x2.t.mo) (HX2.out.2.2.2.1)
          have v2t2 := R2_7.out.cell 20 (.int .u8 x2.t.d) (HX2.out.2.2.2.2.1)
          have v2t3 := R2_7.out.cell 21 (.int .u8 x2.t.h) (HX2.out.2.2.2.2.2.1)
          have v2t4 := R2_7.out.cell 22 (.int .u8 x2.t.mi) (HX2.out.2.2.2.2.2.2.1)
          have v2t5 := R2_7.out.cell 23 (.int .u8 x2.t.s) (HX2.out.2.2.2.2.2.2.2.1)
          have v2z := R2_7.out.lt
          have et := HTE.out
          rw [show eqT x1.t x2.t = true from (eqT_iff _ _).2 w3] at et
          have v1d := R1_7.out.cell 56 (.slice xd1 nd1 cd1) (HX1.out.2.2.2.2.2.2.2.2.1)
          have v1z := R1_7.out.lt
          have v2d := R2_7.out.cell 56 (.slice xd2 nd1 cd2) (HX2.out.2.2.2.2.2.2.2.2.1)
          have v2z := R2_7.out.lt
          go_wp2_with (first | (refine wpList_load_mid_g rfl 27 _ rfl (w.heap.size) 1 rfl (x1.g.map b8) _ (var_range R1_7.out (HX1.out.2.2.2.2.2.2.2.2.2)) Try.underlying27 rfl (by rw [List.length_map, HO1.out.g]; kernel_rfl) ?_; rw [← hG1.out]) | (refine wpList_load_mid_g rfl 27 _ rfl (w.heap.size + 1) 1 rfl (x2.g.map b8) _ (var_range R2_7.out (HX2.out.2.2.2.2.2.2.2.2.2)) Try.underlying27 rfl (by rw [List.length_map, HO2.out.g]; kernel_rfl) ?_; rw [← hG2.out]))
          refine (same_form x1.d x2.d true (decide_eq_true w4) _ _ _ V1_7.out V2_7.out).mono ?_
          rintro e w' ⟨rfl, rfl⟩
          go_wp2_with fail
          refine (same_form Fx1 Fx2 true (decide_eq_true HYE.out) _ _ _ T1_7.out T2_7.out).mono ?_
          rintro e w' ⟨rfl, rfl⟩
          go_wp2_with fail
          refine (works_calls _).mono ?_
          rintro e wz ⟨rfl, hb⟩
          have HBz := Lib.hid (HB_7.out.trans (hb.mono HB_7.out.size))
          clear hb v1n v1z v2n v2z v1a v2a v1t0 v1t1 v1t2 v1t3 v1t4 v1t5 v2t0 v2t1 v2t2 v2t3 v2t4 v2t5 v1d v2d
          go_wp2
          go_ret
          exact ⟨rfl, HBz.out⟩

theorem descrApart_walk (x1 : DV) (dv1 : Value) (x2 : DV) (dv2 : Value) (w : World) (o1 : x1.Ok) (b1 : Byt w dv1 x1.d) (o2 : x2.Ok) (b2 : Byt w dv2 x2.d) :
    Calls Try.prog 6 #[.agg (varC x1 dv1).toArray, .agg (varC x2 dv2).toArray] w fun e w' => e = .returned (.bool true) ∧ Below w.heap.size w w' := by
  by_cases h1 : x1.nm.length ≤ 64
  · by_cases h2 : x1.nm.length = x2.nm.length
    · by_cases h3 : x1.d.length = x2.d.length
      · by_cases h4 : x1.d.length ≤ 4096
        · exact descrApart_main x1 dv1 x2 dv2 w o1 b1 o2 b2 h1 h2 h3 h4
        · exact descrApart_big4 x1 dv1 x2 dv2 w o1 b1 o2 b2 h1 h2 h3 (by omega)
      · exact descrApart_big3 x1 dv1 x2 dv2 w o1 b1 o2 b2 h1 h2 h3
    · exact descrApart_big2 x1 dv1 x2 dv2 w o1 b1 o2 b2 h1 h2
  · exact descrApart_big1 x1 dv1 x2 dv2 w o1 b1 o2 b2 (by omega)
end Go.Proofs.Ytemojckmnlgkdaa
