/-
  The contract of the statements' anchor: works.
-/
import Derived.Test.YtilanncobbdlfaaSg17
import Derived.Deep.OwnRows
namespace Go.Proofs.Ytilanncobbdlfaa
open Go Go.RowKit
set_option linter.unusedVariables false

def z16 : List UInt8 := List.replicate 16 0
def z32 : List UInt8 := List.replicate 32 0
def lsK : List Li := [⟨1, [⟨z16, z32⟩]⟩]
theorem made_zeros (n : Nat) : (madeCells #[Value.int .u8 0] n).toList = (List.replicate n (0 : UInt8)).map b8 := by
  simp only [madeCells, Array.toList_map, Array.toList_range, List.map_replicate]
  apply List.ext_getElem
  · simp
  · intro j h1 h2
    simp [b8, Nat.mod_one]
theorem works_lis (w : World) (Z : Array Value) (hZ : Z = madeCells #[Value.int .u8 0] 32) :
    Lis (((w.alloc (.cells Z 5)).alloc (.cells #[.int .u8 0, .int .u8 0, .int .u8 0, .int .u8 0, .int .u8 0, .int .u8 0, .int .u8 0, .int .u8 0, .int .u8 0, .int .u8 0, .int .u8 0, .int .u8 0, .int .u8 0, .int .u8 0, .int .u8 0, .int .u8 0, .slice (some ⟨w.heap.size, 0, none⟩) 32 32] 49)).alloc (.cells #[.int .u8 1, .slice (some ⟨w.heap.size + 1, 0, none⟩) 1 1] 39))
      (.slice (some ⟨w.heap.size + 1 + 1, 0, none⟩) 1 1) [⟨1, [⟨z16, z32, .slice (some ⟨w.heap.size, 0, none⟩) 32 32⟩], .slice (some ⟨w.heap.size + 1, 0, none⟩) 1 1⟩] := by
  have hB : Byt (w.alloc (.cells Z 5)) (.slice (some ⟨w.heap.size, 0, none⟩) 32 32) z32 := Byt.made w z32 Z 5 (0, 0) (by rw [hZ]; exact made_zeros 32) (by decide)
  refine ⟨?_, fun x hx => ?_, fun x hx => ?_⟩
  · have := rd_one (w := (w.alloc (.cells Z 5)).alloc (.cells #[.int .u8 0, .int .u8 0, .int .u8 0, .int .u8 0, .int .u8 0, .int .u8 0, .int .u8 0, .int .u8 0, .int .u8 0, .int .u8 0, .int .u8 0, .int .u8 0, .int .u8 0, .int .u8 0, .int .u8 0, .int .u8 0, .slice (some ⟨w.heap.size, 0, none⟩) 32 32] 49)) (X := [.int .u8 1, .slice (some ⟨w.heap.size + 1, 0, none⟩) 1 1]) (t := 39)
    simp at this
    exact this
  · simp only [List.mem_singleton] at hx
    subst hx
    exact ⟨(by decide : (0 : Int) ≤ 1), (by decide : (1 : Int) ≤ 255)⟩
  · simp only [List.mem_singleton] at hx
    subst hx
    refine ⟨?_, fun y hy => ?_, fun y hy => ?_⟩
    · have := rd_one (w := w.alloc (.cells Z 5)) (X := [.int .u8 0, .int .u8 0, .int .u8 0, .int .u8 0, .int .u8 0, .int .u8 0, .int .u8 0, .int .u8 0, .int .u8 0, .int .u8 0, .int .u8 0, .int .u8 0, .int .u8 0, .int .u8 0, .int .u8 0, .int .u8 0, .slice (some ⟨w.heap.size, 0, none⟩) 32 32]) (t := 49)
      have this := (by simpa using this : Rd ((w.alloc (.cells Z 5)).alloc (.cells #[.int .u8 0, .int .u8 0, .int .u8 0, .int .u8 0, .int .u8 0, .int .u8 0, .int .u8 0, .int .u8 0, .int .u8 0, .int .u8 0, .int .u8 0, .int .u8 0, .int .u8 0, .int .u8 0, .int .u8 0, .int .u8 0, .slice (some ⟨w.heap.size, 0, none⟩) 32 32] 49)) 17 (.slice (some ⟨w.heap.size + 1, 0, none⟩) 1 1) 1 [.int .u8 0, .int .u8 0, .int .u8 0, .int .u8 0, .int .u8 0, .int .u8 0, .int .u8 0, .int .u8 0, .int .u8 0, .int .u8 0, .int .u8 0, .int .u8 0, .int .u8 0, .int .u8 0, .int .u8 0, .int .u8 0, .slice (some ⟨w.heap.size, 0, none⟩) 32 32])
      exact Rd.below this ((Below.refl _ _).alloc (Nat.le_refl _) _) (Nat.le_refl _)
    · simp only [List.mem_singleton] at hy
      subst hy
      rfl
    · simp only [List.mem_singleton] at hy
      subst hy
      exact (hB.below ((Below.refl _ _).alloc (Nat.le_refl _) _)).below ((Below.refl _ _).alloc (Nat.le_refl _) _)
def fK : List UInt8 := nmL 1 ++ (lowN 76 4 ++ (lowN 0 4 ++ (lowN 48 4 ++ (z16 ++ z32))))
theorem fK_len : fK.length = 76 := by decide +kernel
theorem wrK : wrR lsK = fK ∧ wrE lsK = 0 := by decide +kernel
theorem rdK : resL fK = lsK ∧ resE fK = 0 := by decide +kernel
theorem hasK : hasB lsK 1 z32 = true ∧ hasB lsK 2 z32 = false := by decide +kernel

/-- Read's answer to those bytes. -/
theorem refine_read (v : Value) (w : World) (_ : Unit) (h : Byt w v fK) : Calls Try.prog 15 #[v] w fun e w' => ∃ a c xs, e = .returned (.tuple #[.slice a 1 c, .int .i64 0]) ∧ Lis w' (.slice a 1 c) xs ∧ xs.map LiV.li = lsK ∧ xs.length ≤ 4000000000000000000 ∧ (∀ x ∈ xs, x.i.length ≤ 4000000000000000000) ∧ Below w.heap.size w w' := by
  refine (sgReadAll_calls v fK w h (by rw [fK_len]; decide)).mono ?_
  rintro e w' ⟨v', xs, rfl, hm, ho, hb⟩
  rw [rdK.1] at hm
  have hl : xs.length = 1 := by
    have := congrArg List.length hm
    simpa [lsK] using this
  obtain ⟨a, c, rfl, _, _⟩ := ho.lis.open
  rw [hl] at ho ⊢
  refine ⟨a, c, xs, by rw [rdK.2], ho.lis, hm, by omega, fun x hx => ?_, hb⟩
  have h1 : x.li ∈ lsK := by rw [← hm]; exact List.mem_map.2 ⟨x, hx, rfl⟩
  simp only [lsK, List.mem_singleton] at h1
  have h2 : x.i.length = x.li.i.length := (List.length_map _).symm
  rw [h1] at h2
  rw [h2]
  exact (by decide : 1 ≤ 4000000000000000000)
set_option maxRecDepth 100000 in
set_option maxHeartbeats 4000000 in
theorem works_calls (w : World) : Calls Try.prog 9 #[] w fun e w' => e = .returned (.bool true) ∧ Below w.heap.size w w' := by
  obtain ⟨Z, hZ⟩ : ∃ Z, Hid (Z = madeCells #[Value.int .u8 0] 32) := ⟨_, Lib.hid rfl⟩
  have hmk : ∀ W : World, (Instr.makeSlice 22 (.int .i64 32) (.int .i64 32)).run Try.prog W = .ok (.slice (some ⟨W.heap.size, 0, none⟩) 32 32) (W.alloc (.cells Z 5)) := fun W => by
    rw [hZ.out]
    exact run_make_row' (P := Try.prog) 22 5 (.int .u8 0) 1 Try.underlying22 infoB rfl .i64 .i64 32 (by decide) (by decide) W
  have HZB : Hid (∀ W : World, Byt (W.alloc (.cells Z 5)) (.slice (some ⟨W.heap.size, 0, none⟩) 32 32) z32) := Lib.hid (fun W => Byt.made W z32 Z 5 (0, 0) (by rw [hZ.out]; exact made_zeros 32) (by decide))
  have HL := Lib.hid (works_lis w Z hZ.out)
  have HB0 := Lib.hid ((((Below.refl w.heap.size w).alloc (Nat.le_refl _) (.cells Z 5)).alloc (by simp) (.cells #[.int .u8 0, .int .u8 0, .int .u8 0, .int .u8 0, .int .u8 0, .int .u8 0, .int .u8 0, .int .u8 0, .int .u8 0, .int .u8 0, .int .u8 0, .int .u8 0, .int .u8 0, .int .u8 0, .int .u8 0, .int .u8 0, .slice (some ⟨w.heap.size, 0, none⟩) 32 32] 49)).alloc (by simp; omega) (.cells #[.int .u8 1, .slice (some ⟨w.heap.size + 1, 0, none⟩) 1 1] 39))
  go_enter Try.func9, Try.ntmps9
  go_wp2_with fail
  have HW := Lib.hid (sgWrite_calls _ _ _ HL.out (by simp) (fun x hx => by simp only [List.mem_singleton] at hx; subst hx; exact (by decide : 1 ≤ 1000000)) (fun x hx y hy => by simp only [List.mem_singleton] at hx; subst hx; simp only [List.mem_singleton] at hy; subst hy; exact (by decide : 32 ≤ 1000000)))
  refine HW.out.mono ?_
  rintro e w1 hr
  have hr2 : WrRes lsK _ e w1 := hr
  unfold WrRes at hr2
  rw [wrK.1, wrK.2] at hr2
  obtain ⟨x1, n1, c1, rfl, ho, hb⟩ := hr2
  have hn1 : n1 = 76 := by
    have := OwnB.len ho
    rw [fK_len] at this
    exact this
  subst hn1
  have HB1 := Lib.hid (HB0.out.trans (hb.mono HB0.out.size))
  have HF := Lib.hid ho.byt
  clear hb ho hr HW
  go_wp2_with fail
  refine (refine_read _ _ () HF.out).mono ?_
  rintro e w2 ⟨a, c, xs, rfl, hl, hm, hx1, hx2, hb⟩
  have HB2 := Lib.hid (HB1.out.trans (hb.mono HB1.out.size))
  have HL2 := Lib.hid hl
  have HX1 := Lib.hid hx1
  have HX2 := Lib.hid hx2
  have HM := Lib.hid hm
  clear hb hl hm hx1 hx2
  go_wp2_with fail
  have HB3 := Lib.hid (HB2.out.alloc HB2.out.size (.cells Z 5))
  have HL3 := Lib.hid (HL2.out.below ((Below.refl _ _).alloc (Nat.le_refl _) (.cells Z 5)))
  have HC1 := Lib.hid (sgHas_calls _ xs 1 _ z32 _ HL3.out (HZB.out w2) HX1.out HX2.out)
  rw [HM.out, hasK.1] at HC1
  refine HC1.out.mono ?_
  rintro e w3 ⟨rfl, hb⟩
  have HB4 := Lib.hid (HB3.out.trans (hb.mono HB3.out.size))
  have HL4 := Lib.hid (HL3.out.below hb)
  clear hb HC1
  go_wp2_with fail
  have HB5 := Lib.hid (HB4.out.alloc HB4.out.size (.cells Z 5))
  have HL5 := Lib.hid (HL4.out.below ((Below.refl _ _).alloc (Nat.le_refl _) (.cells Z 5)))
  have HC2 := Lib.hid (sgHas_calls _ xs 2 _ z32 _ HL5.out (HZB.out w3) HX1.out HX2.out)
  rw [HM.out, hasK.2] at HC2
  refine HC2.out.mono ?_
  rintro e w4 ⟨rfl, hb⟩
  have HB6 := Lib.hid (HB5.out.trans (hb.mono HB5.out.size))
  clear hb HC2
  go_wp2
  go_ret
  exact ⟨rfl, HB6.out⟩
end Go.Proofs.Ytilanncobbdlfaa
