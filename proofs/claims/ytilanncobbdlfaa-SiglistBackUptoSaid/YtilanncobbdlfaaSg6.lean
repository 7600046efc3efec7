/-
  The contract of the document's own reading of one list.
-/
import Derived.Test.YtilanncobbdlfaaSg5
namespace Go.Proofs.Ytilanncobbdlfaa
open Go Go.RowKit
set_option linter.unusedVariables false

/-- An item's cells while its owner is laid, byte by byte. -/
def xiC (g : List UInt8) (u : Value) (i : Nat) : List Value := (g.take i).map b8 ++ (List.replicate (16 - i) (.int .u8 0) ++ [u])
theorem xiC_0 (g : List UInt8) (u : Value) : xiC g u 0 = List.replicate 16 (.int .u8 0) ++ [u] := rfl
theorem xiC_16 (g : List UInt8) (u : Value) (h : g.length = 16) : xiC g u 16 = g.map b8 ++ [u] := by
  unfold xiC
  rw [List.take_of_length_le (by omega)]
  rfl
theorem xiC_len (g : List UInt8) (u : Value) (i : Nat) (h : g.length = 16) (hi : i ≤ 16) : (xiC g u i).length = 17 := by
  unfold xiC
  simp [h]
  omega
theorem xiC_step (g : List UInt8) (u : Value) (i : Nat) (h : g.length = 16) (hi : i < 16) : (xiC g u i).toArray.setIfInBounds i (b8 (g.getD i 0)) = (xiC g u (i + 1)).toArray := by
  have hl := xiC_len g u i h (by omega)
  have hl2 := xiC_len g u (i + 1) h (by omega)
  apply Array.ext_getElem?
  intro j
  rw [Array.getElem?_setIfInBounds]
  have ht : ∀ n, n ≤ 16 → ((g.take n).map b8).length = n := fun n hn => by rw [List.length_map, List.length_take]; omega
  split
  · rename_i e
    subst e
    rw [if_pos (by simp [hl]; omega)]
    simp only [List.getElem?_toArray]
    unfold xiC
    rw [List.getElem?_append_left (by rw [ht _ (by omega)]; omega)]
    simp [List.getD, show i < g.length by omega]
  · rename_i e
    simp only [List.getElem?_toArray]
    unfold xiC
    by_cases hj : j < i
    · rw [List.getElem?_append_left (by rw [ht _ (by omega)]; omega), List.getElem?_append_left (by rw [ht _ (by omega)]; omega)]
      simp only [List.getElem?_map]
      rw [List.getElem?_take_of_lt hj, List.getElem?_take_of_lt (by omega)]
    · have hR : ∀ m, m ≤ 16 → m ≤ j → ((g.take m).map b8 ++ (List.replicate (16 - m) (Value.int .u8 0) ++ [u]))[j]? = if j < 16 then some (.int .u8 0) else [u][j - 16]? := fun m hm hmj => by
        rw [List.getElem?_append_right (by rw [ht _ hm]; omega), ht _ hm]
        by_cases hj2 : j < 16
        · rw [List.getElem?_append_left (by simp; omega), if_pos hj2]
          simp [show j - m < 16 - m by omega]
        · rw [List.getElem?_append_right (by simp; omega), if_neg hj2]
          simp only [List.length_replicate]
          rw [show j - m - (16 - m) = j - 16 by omega]
      rw [hR i (by omega) (by omega), hR (i + 1) (by omega) (by omega)]
theorem xiC_at16 (g : List UInt8) (u : Value) (i : Nat) (h : g.length = 16) (hi : i ≤ 16) : (xiC g u i)[16]? = some u := by
  unfold xiC
  have ht : ((g.take i).map b8).length = i := by rw [List.length_map, List.length_take]; omega
  rw [List.getElem?_append_right (by rw [ht]; omega), ht, List.getElem?_append_right (by simp)]
  simp
theorem row_setCell {w : World} {b i : Nat} {cs : Array Value} {t : TypeId} (u : Value) (h : w.heap[b]? = some (.cells cs t (0, 0))) : (w.setCell ⟨b, i, none⟩ u).heap[b]? = some (.cells (cs.setIfInBounds i u) t (0, 0)) :=
  heap_setCell_same w b i cs t u h

set_option maxRecDepth 100000 in
set_option maxHeartbeats 1000000 in
theorem refOne_short (v : Value) (l : List UInt8) (w : World) (hv : Byt w v l) (hs : l.length < 28) : Calls Try.prog 33 #[v] w (RdRes l w) := by
  have HNO : Hid (okB l = false) := Lib.hid (ok_no l (fun h => by have := h.1; omega))
  obtain ⟨a, cap, rfl, h1, h2, _⟩ := hv.open
  unfold maxLen at h2
  clear hv
  obtain ⟨n, hn⟩ : ∃ n, Hid (n = l.length) := ⟨_, Lib.hid rfl⟩
  rw [← hn.out] at h1 hs ⊢
  have t1 : decide ((n : Int) < 28) = true := by simp; omega
  go_enter Try.func33, Try.ntmps33
  go_wp2
  refine bodyPost_ret (v := .tuple #[.agg #[.int .u8 0, .slice none 0 0], .int .i64 0]) (by simp [results, Try.results33, go_sem]) rfl (.inr ⟨HNO.out, ⟨_, _, _, _, rfl⟩, ?_⟩)
  repeat' (first
    | with_reducible exact Below.refl _ _
    | with_reducible refine Below.drew ?_
    | with_reducible refine Below.setCell ?_ ?_ _
    | with_reducible refine Below.alloc ?_ ?_ _
    | omega
    | (simp <;> omega))

set_option maxRecDepth 100000 in
set_option maxHeartbeats 4000000 in
theorem refOne_long (v : Value) (l : List UInt8) (w : World) (hv : Byt w v l) (hl : l.length ≤ 1000000000) (hs : 28 ≤ l.length) : Calls Try.prog 33 #[v] w (RdRes l w) := by
  have HV := Lib.hid hv
  obtain ⟨bx, ox, cap, e, h1, h2⟩ : ∃ bx ox cap, v = .slice (some ⟨bx, ox, none⟩) l.length cap ∧ l.length ≤ cap ∧ cap ≤ 9223372036854775807 := by
    obtain ⟨a, cap, e, h1, h2, h3⟩ := hv.open
    obtain ⟨b, off, e2, _⟩ := h3 0 (by omega)
    unfold maxLen at h2
    exact ⟨b, off, cap, by rw [e, e2], h1, by omega⟩
  subst e
  clear hv
  obtain ⟨len, hlen⟩ : ∃ n, Hid (n = l.length) := ⟨_, Lib.hid rfl⟩
  have hlv : l.length = len := hlen.out.symm
  rw [hlv] at HV h1 hl hs ⊢
  have HW := hd_ways l (by omega)
  rw [hlv] at HW
  clear hlv
  obtain ⟨K, hK⟩ : ∃ K, Hid (K = kd l) := ⟨_, Lib.hid rfl⟩
  obtain ⟨A, hA⟩ : ∃ n, Hid (n = n4 l 16) := ⟨_, Lib.hid rfl⟩
  obtain ⟨N2, hN2⟩ : ∃ n, Hid (n = n4 l 20) := ⟨_, Lib.hid rfl⟩
  obtain ⟨s, hs4⟩ : ∃ n, Hid (n = n4 l 24) := ⟨_, Lib.hid rfl⟩
  obtain ⟨r, hr⟩ : ∃ n, Hid (n = (n4 l 16 - 28) % n4 l 24) := ⟨_, Lib.hid rfl⟩
  have hA9 := n4_lt l 16
  have hN29 := n4_lt l 20
  have hs9 := n4_lt l 24
  have HNUM : Hid (∀ (p : Nat) (x : Int) (m : Nat), x = (p : Int) → p + 4 ≤ l.length → m = n4 l p → ∀ W, Byt W (.slice (some ⟨bx, ox, none⟩) len cap) l → Calls Try.prog 45 #[.slice (some ⟨bx, ox, none⟩) len cap, .int .i64 x] W fun e w' => e = .returned (.int .i64 (m : Int)) ∧ Below W.heap.size W w') := Lib.hid (fun p x m hx hp hm W h => by
    subst hx hm
    exact refNumber_calls _ l p W h (by rw [← hlen.out]; omega) hp)
  have H16 := Lib.hid (HNUM.out 16 16 A rfl (by have := hlen.out; omega) hA.out)
  have H20 := Lib.hid (HNUM.out 20 20 N2 rfl (by have := hlen.out; omega) hN2.out)
  have H24 := Lib.hid (HNUM.out 24 24 s rfl (by have := hlen.out; omega) hs4.out)
  rw [← hK.out, ← hA.out, ← hN2.out, ← hs4.out] at HW
  have hr2 : (A - 28) % s = r := by rw [hr.out, hA.out, hs4.out]
  rw [hr2] at HW
  clear hr2
  rw [← hA.out] at hA9
  rw [← hN2.out] at hN29
  rw [← hs4.out] at hs9
  have HWAYS := Lib.hid HW
  have hK3 : 0 ≤ K ∧ K ≤ 3 := by rw [hK.out]; exact kdL_bd _
  clear HW HNUM
  have hh := byt_head HV.out hlen.out (q := 16) (by omega)
  have hsl := hh.1
  have HH := Lib.hid hh.2
  clear hh
  rw [show ((16 : Nat) : Int) = 16 from rfl] at hsl
  have HMAY := Lib.hid (fun u (d : List UInt8) W (h : Byt W u d) (hd : d.length ≤ 1000000000) => refMay_calls K u d W h hd)
  obtain ⟨q, hq⟩ : ∃ q, Hid (q = l.take 16) := ⟨_, Lib.hid rfl⟩
  rw [← hq.out] at HH
  have HKH := Lib.hid (kdL_hit q)
  have HK0 := Lib.hid (kdL_none q)
  rw [show kdL q = K by rw [hq.out]; exact hK.out.symm] at HKH HK0
  obtain ⟨SL, hSL⟩ : ∃ S, Hid (S = sOf q) := ⟨_, Lib.hid rfl⟩
  have HEQ := Lib.hid (fun m : List UInt8 => sOf_beq m q)
  rw [← hSL.out] at HEQ
  have HB_0 := Lib.hid (Below.refl w.heap.size w)
  have HB_1 := Lib.hid (HB_0.out.alloc HB_0.out.size (.cells #[.int .u8 0, .slice none 0 0] 39))
  have R2_1 := Lib.hid (RowAt.new w #[.int .u8 0, .slice none 0 0] 39 (w.heap.size) (by first | rfl | simp))
  have HB_2 := Lib.hid (HB_1.out.alloc HB_1.out.size (.cells #[.int .u8 0, .slice none 0 0] 39))
  have R2_2 := Lib.hid (RowAt.alloc R2_1.out (.cells #[.int .u8 0, .slice none 0 0] 39))
  have R4_2 := Lib.hid (RowAt.new (w.alloc (.cells #[.int .u8 0, .slice none 0 0] 39)) #[.int .u8 0, .slice none 0 0] 39 (w.heap.size + 1) (by first | rfl | simp))
  have t28 : decide ((len : Int) < 28) = false := by simp; omega
  go_enter Try.func33, Try.ntmps33
  go_wp2_with fail
  go_loopw [5, 6] (fun kk j_ wr => ∃ (j : Nat) (x : Int), 1 ≤ j ∧ j ≤ 4 ∧ j_ = .int .u8 j ∧ kk = .int .u8 x ∧ Hid ((x = 0 ∧ ∀ r : Nat, 1 ≤ r → r < j → nmL (r : Int) ≠ q) ∨ (∃ r : Nat, 1 ≤ r ∧ r < j ∧ nmL (r : Int) = q ∧ x = (r : Int))) ∧ Hid (RowAt wr (w.heap.size) #[.int .u8 0, .slice none 0 0]) ∧ Hid (RowAt wr (w.heap.size + 1) #[.int .u8 0, .slice none 0 0]) ∧ Hid (Below w.heap.size w wr)) (fun _ j_ _ => 4 - (intOf j_).toNat)
  case atStart => exact ⟨1, 0, by omega, by omega, rfl, rfl, Lib.hid (.inl ⟨rfl, fun r h1 h2 => by omega⟩), R2_2, R4_2, HB_2⟩
  case round =>
    obtain ⟨j, x, hj1, hj4, rfl, rfl, hkk, HR2, HR4, HBr⟩ := hrel
    by_cases hlt : j ≤ 3
    · have hdl : decide ((j : Int) ≤ 3) = true := by simp; omega
      have hw8 : IntKind.u8.wrap ((j : Int) + 1) = (j : Int) + 1 := by rw [IntKind.wrap_u8]; omega
      have HE := Lib.hid (HEQ.out (nmL (j : Int)))
      obtain ⟨M, hM⟩ : ∃ M, Hid (M = nmL (j : Int)) := ⟨_, Lib.hid rfl⟩
      rw [← hM.out] at HE
      obtain ⟨SN, hSN⟩ : ∃ S, Hid (S = sOf M) := ⟨_, Lib.hid rfl⟩
      rw [← hSN.out] at HE
      by_cases hml : M = q
      · have heq : (SN.toList == SL.toList) = true := by rw [HE.out]; exact decide_eq_true hml
        have HMQ := Lib.hid hml
        clear hml
        go_wp2_with fail
        refine' wp_region_grows (by kernel_rfl) (fun w' => Hid (RowAt w' (w.heap.size) #[.int .u8 0, .slice none 0 0]) ∧ Hid (RowAt w' (w.heap.size + 1) #[.int .u8 0, .slice none 0 0]) ∧ Hid (Below w.heap.size w w')) [isV _, fun v w' => Byt w' v (nmL (j : Int)), isV _, isV _, isV _, isV _, isV _] 113 [[], [(0, some 21)], [(1, some 22)], [], [(3, some 24)], [(4, some 25)], [(2, some 23), (5, some 26)]] [(0, some 21), (1, some 22), (2, some 23), (3, some 24), (4, some 25), (5, some 26), (6, some 27)] rfl (by kernel_rfl) ⟨fun _ _ _ _ h => h, fun _ _ _ hg h => Byt.below h hg, fun _ _ _ _ h => h, fun _ _ _ _ h => h, fun _ _ _ _ h => h, fun _ _ _ _ h => h, fun _ _ _ _ h => h, trivial⟩ (fun _ a a' _ e h => by cases a; cases a'; cases e; exact h) ?hS ?hsteps ?hend
        case hS =>
          intro w' hg
          exact ⟨Lib.hid (HR2.out.drew.below hg), Lib.hid (HR4.out.drew.below hg), Lib.hid (HBr.out.drew.trans (hg.mono HBr.out.size))⟩
        case hsteps =>
          refine ⟨?_, ?_, ?_, ?_, ?_, ?_, ?_, trivial⟩
          · intro w' hs
            simp only [AllV, rgPut]
            clear hs
            first
              | (refine OpOk.off ?_ ?_ <;> rfl)
              | (refine OpOk.run ?_ (fun K hK => ?_)
                 · rfl
                 go_simp
                 refine hK.out _ _ (Grows.refl _) ?_
                 exact rfl)
          · intro w' hs
            simp only [AllV, rdP, isV, forall_eq, rgPut, Act.put, List.setIfInBounds_toArray, List.set_cons_zero, List.set_cons_succ]
            first
              | (refine OpOk.off ?_ ?_ <;> rfl)
              | (refine OpOk.run ?_ (fun K hK => ?_)
                 · rfl
                 go_simp
                 go_at_call 44
                 refine (refName_calls _ _).mono ?_
                 rintro e w1 ⟨v1, rfl, ho, hb⟩
                 refine hK.out _ _ hb ?_
                 exact ho
                )
          · -- 2: Op.convert 22 9 t22
            intro w' hs
            simp only [AllV, rdP, rgPut, Act.put, List.setIfInBounds_toArray, List.set_cons_zero, List.set_cons_succ]
            intro v hv
            have hcv := run_tostring (P := Try.prog) hv 22 9 5 Try.underlying22 Try.underlying5 Try.underlying9
            rw [← hM.out, ← hSN.out] at hcv
            refine OpOk.run ?_ (fun K hK => ?_)
            · rfl
            go_simp
            refine hK.out _ _ (Grows.refl _) ?_
            exact rfl
          · intro w' hs
            simp only [AllV, rgPut]
            clear hs
            first
              | (refine OpOk.off ?_ ?_ <;> rfl)
              | (refine OpOk.run ?_ (fun K hK => ?_)
                 · rfl
                 go_simp
                 refine hK.out _ _ (Grows.refl _) ?_
                 exact rfl)
          · intro w' hs
            simp only [AllV, rdP, isV, forall_eq, rgPut, Act.put, List.setIfInBounds_toArray, List.set_cons_zero, List.set_cons_succ]
            clear hs
            first
              | (refine OpOk.off ?_ ?_ <;> rfl)
              | (refine OpOk.run ?_ (fun K hK => ?_)
                 · rfl
                 go_simp
                 refine hK.out _ _ (Grows.refl _) ?_
                 exact rfl)
          · -- 5: Op.convert 22 9 t25
            intro w' hs
            simp only [AllV, rdP, isV, forall_eq, rgPut, Act.put, List.setIfInBounds_toArray, List.set_cons_zero, List.set_cons_succ]
            have hcv := run_tostring (P := Try.prog) (HH.out.below hs.2.2.out) 22 9 5 Try.underlying22 Try.underlying5 Try.underlying9
            rw [← hSL.out] at hcv
            refine OpOk.run ?_ (fun K hK => ?_)
            · rfl
            go_simp
            refine hK.out _ _ (Grows.refl _) ?_
            exact rfl
          · intro w' hs
            simp only [AllV, rdP, isV, forall_eq, rgPut, Act.put, List.setIfInBounds_toArray, List.set_cons_zero, List.set_cons_succ]
            clear hs
            first
              | (refine OpOk.off ?_ ?_ <;> rfl)
              | (refine OpOk.run ?_ (fun K hK => ?_)
                 · rfl
                 go_simp
                 refine hK.out _ _ (Grows.refl _) ?_
                 exact rfl)
        case hend =>
          intro w' hs
          simp only [AllV, rdP, isV, forall_eq, rgPut, Act.put, List.setIfInBounds_toArray, List.set_cons_zero, List.set_cons_succ]
          intro vz hz
          clear hz
          obtain ⟨HR2n, HR4n, HBn⟩ := hs
          go_wp2
          go_roundw
          case rel => exact ⟨j + 1, j, by omega, by omega, by go_num, rfl, Lib.hid (.inr ⟨j, hj1, by omega, by rw [← hM.out]; exact HMQ.out, rfl⟩), HR2n, HR4n, HBn⟩
          case measure => simp [intOf]; omega
      · have heq : (SN.toList == SL.toList) = false := by rw [HE.out]; exact decide_eq_false hml
        have HMQ := Lib.hid hml
        clear hml
        go_wp2_with fail
        refine' wp_region_grows (by kernel_rfl) (fun w' => Hid (RowAt w' (w.heap.size) #[.int .u8 0, .slice none 0 0]) ∧ Hid (RowAt w' (w.heap.size + 1) #[.int .u8 0, .slice none 0 0]) ∧ Hid (Below w.heap.size w w')) [isV _, fun v w' => Byt w' v (nmL (j : Int)), isV _, isV _, isV _, isV _, isV _] 113 [[], [(0, some 21)], [(1, some 22)], [], [(3, some 24)], [(4, some 25)], [(2, some 23), (5, some 26)]] [(0, some 21), (1, some 22), (2, some 23), (3, some 24), (4, some 25), (5, some 26), (6, some 27)] rfl (by kernel_rfl) ⟨fun _ _ _ _ h => h, fun _ _ _ hg h => Byt.below h hg, fun _ _ _ _ h => h, fun _ _ _ _ h => h, fun _ _ _ _ h => h, fun _ _ _ _ h => h, fun _ _ _ _ h => h, trivial⟩ (fun _ a a' _ e h => by cases a; cases a'; cases e; exact h) ?hS ?hsteps ?hend
        case hS =>
          intro w' hg
          exact ⟨Lib.hid (HR2.out.drew.below hg), Lib.hid (HR4.out.drew.below hg), Lib.hid (HBr.out.drew.trans (hg.mono HBr.out.size))⟩
        case hsteps =>
          refine ⟨?_, ?_, ?_, ?_, ?_, ?_, ?_, trivial⟩
          · intro w' hs
            simp only [AllV, rgPut]
            clear hs
            first
              | (refine OpOk.off ?_ ?_ <;> rfl)
              | (refine OpOk.run ?_ (fun K hK => ?_)
                 · rfl
                 go_simp
                 refine hK.out _ _ (Grows.refl _) ?_
                 exact rfl)
          · intro w' hs
            simp only [AllV, rdP, isV, forall_eq, rgPut, Act.put, List.setIfInBounds_toArray, List.set_cons_zero, List.set_cons_succ]
            first
              | (refine OpOk.off ?_ ?_ <;> rfl)
              | (refine OpOk.run ?_ (fun K hK => ?_)
                 · rfl
                 go_simp
                 go_at_call 44
                 refine (refName_calls _ _).mono ?_
                 rintro e w1 ⟨v1, rfl, ho, hb⟩
                 refine hK.out _ _ hb ?_
                 exact ho
                )
          · -- 2: Op.convert 22 9 t22
            intro w' hs
            simp only [AllV, rdP, rgPut, Act.put, List.setIfInBounds_toArray, List.set_cons_zero, List.set_cons_succ]
            intro v hv
            have hcv := run_tostring (P := Try.prog) hv 22 9 5 Try.underlying22 Try.underlying5 Try.underlying9
            rw [← hM.out, ← hSN.out] at hcv
            refine OpOk.run ?_ (fun K hK => ?_)
            · rfl
            go_simp
            refine hK.out _ _ (Grows.refl _) ?_
            exact rfl
          · intro w' hs
            simp only [AllV, rgPut]
            clear hs
            first
              | (refine OpOk.off ?_ ?_ <;> rfl)
              | (refine OpOk.run ?_ (fun K hK => ?_)
                 · rfl
                 go_simp
                 refine hK.out _ _ (Grows.refl _) ?_
                 exact rfl)
          · intro w' hs
            simp only [AllV, rdP, isV, forall_eq, rgPut, Act.put, List.setIfInBounds_toArray, List.set_cons_zero, List.set_cons_succ]
            clear hs
            first
              | (refine OpOk.off ?_ ?_ <;> rfl)
              | (refine OpOk.run ?_ (fun K hK => ?_)
                 · rfl
                 go_simp
                 refine hK.out _ _ (Grows.refl _) ?_
                 exact rfl)
          · -- 5: Op.convert 22 9 t25
            intro w' hs
            simp only [AllV, rdP, isV, forall_eq, rgPut, Act.put, List.setIfInBounds_toArray, List.set_cons_zero, List.set_cons_succ]
            have hcv := run_tostring (P := Try.prog) (HH.out.below hs.2.2.out) 22 9 5 Try.underlying22 Try.underlying5 Try.underlying9
            rw [← hSL.out] at hcv
            refine OpOk.run ?_ (fun K hK => ?_)
            · rfl
            go_simp
            refine hK.out _ _ (Grows.refl _) ?_
            exact rfl
          · intro w' hs
            simp only [AllV, rdP, isV, forall_eq, rgPut, Act.put, List.setIfInBounds_toArray, List.set_cons_zero, List.set_cons_succ]
            clear hs
            first
              | (refine OpOk.off ?_ ?_ <;> rfl)
              | (refine OpOk.run ?_ (fun K hK => ?_)
                 · rfl
                 go_simp
                 refine hK.out _ _ (Grows.refl _) ?_
                 exact rfl)
        case hend =>
          intro w' hs
          simp only [AllV, rdP, isV, forall_eq, rgPut, Act.put, List.setIfInBounds_toArray, List.set_cons_zero, List.set_cons_succ]
          intro vz hz
          clear hz
          obtain ⟨HR2n, HR4n, HBn⟩ := hs
          go_wp2
          go_roundw
          case rel =>
            refine ⟨j + 1, x, by omega, by omega, by go_num, rfl, Lib.hid ?_, HR2n, HR4n, HBn⟩
            rcases hkk.out with ⟨h1, h2⟩ | ⟨r, h1, h2, h3, h4⟩
            · refine .inl ⟨h1, fun r hr1 hr2 => ?_⟩
              by_cases e : r = j
              · subst e; rw [← hM.out]; exact HMQ.out
              · exact h2 r hr1 (by omega)
            · exact .inr ⟨r, h1, by omega, h3, h4⟩
          case measure => simp [intOf]; omega
    · obtain rfl : j = 4 := by omega
      have hxk : x = K := by
        rcases hkk.out with ⟨h1, h2⟩ | ⟨r, h1, h2, h3, h4⟩
        · rw [h1, HK0.out h2]
        · rw [h4, HKH.out r h1 (by omega) h3]
      subst hxk
      obtain ⟨wk, hwk⟩ : ∃ wk : World, wk = wr := ⟨_, rfl⟩
      subst hwk
      have hdl : decide (((4 : Nat) : Int) ≤ 3) = false := by decide
      clear hsl
      go_wp2_with fail
      refine (H16.out _ (HV.out.below HBr.out)).mono ?_
      rintro e w3 ⟨rfl, hb⟩
      have HB_3 := Lib.hid (HBr.out.trans (hb.mono HBr.out.size))
      have R2_3 := Lib.hid (RowAt.below HR2.out hb)
      have R4_3 := Lib.hid (RowAt.below HR4.out hb)
      clear hb
      go_wp2_with fail
      refine (H24.out _ (HV.out.below HB_3.out)).mono ?_
      rintro e w4 ⟨rfl, hb⟩
      have HB_4 := Lib.hid (HB_3.out.trans (hb.mono HB_3.out.size))
      have R2_4 := Lib.hid (RowAt.below R2_3.out hb)
      have R4_4 := Lib.hid (RowAt.below R4_3.out hb)
      clear hb
      have HW := HWAYS.out
      rcases HW with ⟨g1, hno⟩ | ⟨g1, HW⟩
      · have HNO := Lib.hid hno
        clear hno
        have q1 : (x == 0) = true := by simpa using g1
        clear g1
        have R2c0 := R2_4.out.cell 0 (.int .u8 0) rfl
        have R2c1 := R2_4.out.cell 1 (.slice none 0 0) rfl
        have R2z := R2_4.out.lt
        have R2f := R2_4.out.free
        have R4c0 := R4_4.out.cell 0 (.int .u8 0) rfl
        have R4c1 := R4_4.out.cell 1 (.slice none 0 0) rfl
        have R4z := R4_4.out.lt
        have H6 := Lib.hid (row_two R2_4.out (.int .u8 0) (.slice none 0 0))
        have g0 := H6.out.cell 0 (.int .u8 0) rfl
        have g1 := H6.out.cell 1 (.slice none 0 0) rfl
        have BEL := Lib.hid (below_two HB_4.out (b := w.heap.size) (Nat.le_refl _) (.int .u8 0) (.slice none 0 0))
        go_wp2
        refine bodyPost_ret (v := .tuple #[.agg #[.int .u8 0, .slice none 0 0], .int .i64 0]) (by simp [results, Try.results33, go_sem, g0, g1]) rfl ?_
        exact .inr ⟨HNO.out, ⟨_, _, _, _, rfl⟩, BEL.out⟩
      have q1 : (x == 0) = false := by simpa using g1
      clear g1
      have HW1 := Lib.hid HW
      clear HW
      go_wp2_with fail
      refine (H20.out _ (HV.out.below HB_4.out)).mono ?_
      rintro e w5 ⟨rfl, hb⟩
      have HB_5 := Lib.hid (HB_4.out.trans (hb.mono HB_4.out.size))
      have R2_5 := Lib.hid (RowAt.below R2_4.out hb)
      have R4_5 := Lib.hid (RowAt.below R4_4.out hb)
      clear hb
      have HW := HW1.out
      rcases HW with ⟨g2, hno⟩ | ⟨g2, HW⟩
      · have HNO := Lib.hid hno
        clear hno
        have q2 : ((N2 : Int) != 0) = true := by simp; omega
        have R2c0 := R2_5.out.cell 0 (.int .u8 0) rfl
        have R2c1 := R2_5.out.cell 1 (.slice none 0 0) rfl
        have R2z := R2_5.out.lt
        have R2f := R2_5.out.free
        have R4c0 := R4_5.out.cell 0 (.int .u8 0) rfl
        have R4c1 := R4_5.out.cell 1 (.slice none 0 0) rfl
        have R4z := R4_5.out.lt
        have H6 := Lib.hid (row_two R2_5.out (.int .u8 0) (.slice none 0 0))
        have g0 := H6.out.cell 0 (.int .u8 0) rfl
        have g1 := H6.out.cell 1 (.slice none 0 0) rfl
        have BEL := Lib.hid (below_two HB_5.out (b := w.heap.size) (Nat.le_refl _) (.int .u8 0) (.slice none 0 0))
        go_wp2
        refine bodyPost_ret (v := .tuple #[.agg #[.int .u8 0, .slice none 0 0], .int .i64 0]) (by simp [results, Try.results33, go_sem, g0, g1]) rfl ?_
        exact .inr ⟨HNO.out, ⟨_, _, _, _, rfl⟩, BEL.out⟩
      have q2 : ((N2 : Int) != 0) = false := by simp; omega
      have hg2 := Lib.hid g2
      clear g2
      rcases HW with ⟨g3, hno⟩ | ⟨g3, HW⟩
      · have HNO := Lib.hid hno
        clear hno
        have q3 : decide ((s : Int) < 17) = true := by simp; omega
        have R2c0 := R2_5.out.cell 0 (.int .u8 0) rfl
        have R2c1 := R2_5.out.cell 1 (.slice none 0 0) rfl
        have R2z := R2_5.out.lt
        have R2f := R2_5.out.free
        have R4c0 := R4_5.out.cell 0 (.int .u8 0) rfl
        have R4c1 := R4_5.out.cell 1 (.slice none 0 0) rfl
        have R4z := R4_5.out.lt
        have H6 := Lib.hid (row_two R2_5.out (.int .u8 0) (.slice none 0 0))
        have g0 := H6.out.cell 0 (.int .u8 0) rfl
        have g1 := H6.out.cell 1 (.slice none 0 0) rfl
        have BEL := Lib.hid (below_two HB_5.out (b := w.heap.size) (Nat.le_refl _) (.int .u8 0) (.slice none 0 0))
        go_wp2
        refine bodyPost_ret (v := .tuple #[.agg #[.int .u8 0, .slice none 0 0], .int .i64 0]) (by simp [results, Try.results33, go_sem, g0, g1]) rfl ?_
        exact .inr ⟨HNO.out, ⟨_, _, _, _, rfl⟩, BEL.out⟩
      have q3 : decide ((s : Int) < 17) = false := by simp; omega
      rcases HW with ⟨g4, hno⟩ | ⟨g4, HW⟩
      · have HNO := Lib.hid hno
        clear hno
        have q4 : decide ((8208 : Int) < (s : Int)) = true := by simp; omega
        have R2c0 := R2_5.out.cell 0 (.int .u8 0) rfl
        have R2c1 := R2_5.out.cell 1 (.slice none 0 0) rfl
        have R2z := R2_5.out.lt
        have R2f := R2_5.out.free
        have R4c0 := R4_5.out.cell 0 (.int .u8 0) rfl
        have R4c1 := R4_5.out.cell 1 (.slice none 0 0) rfl
        have R4z := R4_5.out.lt
        have H6 := Lib.hid (row_two R2_5.out (.int .u8 0) (.slice none 0 0))
        have g0 := H6.out.cell 0 (.int .u8 0) rfl
        have g1 := H6.out.cell 1 (.slice none 0 0) rfl
        have BEL := Lib.hid (below_two HB_5.out (b := w.heap.size) (Nat.le_refl _) (.int .u8 0) (.slice none 0 0))
        go_wp2
        refine bodyPost_ret (v := .tuple #[.agg #[.int .u8 0, .slice none 0 0], .int .i64 0]) (by simp [results, Try.results33, go_sem, g0, g1]) rfl ?_
        exact .inr ⟨HNO.out, ⟨_, _, _, _, rfl⟩, BEL.out⟩
      have q4 : decide ((8208 : Int) < (s : Int)) = false := by simp; omega
      rcases HW with ⟨g5, hno⟩ | ⟨g5, HW⟩
      · have HNO := Lib.hid hno
        clear hno
        have q5 : decide ((len : Int) < (A : Int)) = true := by simp; omega
        have R2c0 := R2_5.out.cell 0 (.int .u8 0) rfl
        have R2c1 := R2_5.out.cell 1 (.slice none 0 0) rfl
        have R2z := R2_5.out.lt
        have R2f := R2_5.out.free
        have R4c0 := R4_5.out.cell 0 (.int .u8 0) rfl
        have R4c1 := R4_5.out.cell 1 (.slice none 0 0) rfl
        have R4z := R4_5.out.lt
        have H6 := Lib.hid (row_two R2_5.out (.int .u8 0) (.slice none 0 0))
        have g0 := H6.out.cell 0 (.int .u8 0) rfl
        have g1 := H6.out.cell 1 (.slice none 0 0) rfl
        have BEL := Lib.hid (below_two HB_5.out (b := w.heap.size) (Nat.le_refl _) (.int .u8 0) (.slice none 0 0))
        go_wp2
        refine bodyPost_ret (v := .tuple #[.agg #[.int .u8 0, .slice none 0 0], .int .i64 0]) (by simp [results, Try.results33, go_sem, g0, g1]) rfl ?_
        exact .inr ⟨HNO.out, ⟨_, _, _, _, rfl⟩, BEL.out⟩
      have q5 : decide ((len : Int) < (A : Int)) = false := by simp; omega
      have q5n : decide (len < A) = false := by simp; omega
      rcases HW with ⟨g6, hno⟩ | ⟨g6, HW⟩
      · have HNO := Lib.hid hno
        clear hno
        have q6 : decide ((A : Int) < 28 + (s : Int)) = true := by simp; omega
        have R2c0 := R2_5.out.cell 0 (.int .u8 0) rfl
        have R2c1 := R2_5.out.cell 1 (.slice none 0 0) rfl
        have R2z := R2_5.out.lt
        have R2f := R2_5.out.free
        have R4c0 := R4_5.out.cell 0 (.int .u8 0) rfl
        have R4c1 := R4_5.out.cell 1 (.slice none 0 0) rfl
        have R4z := R4_5.out.lt
        have H6 := Lib.hid (row_two R2_5.out (.int .u8 0) (.slice none 0 0))
        have g0 := H6.out.cell 0 (.int .u8 0) rfl
        have g1 := H6.out.cell 1 (.slice none 0 0) rfl
        have BEL := Lib.hid (below_two HB_5.out (b := w.heap.size) (Nat.le_refl _) (.int .u8 0) (.slice none 0 0))
        go_wp2
        refine bodyPost_ret (v := .tuple #[.agg #[.int .u8 0, .slice none 0 0], .int .i64 0]) (by simp [results, Try.results33, go_sem, g0, g1]) rfl ?_
        exact .inr ⟨HNO.out, ⟨_, _, _, _, rfl⟩, BEL.out⟩
      have q6 : decide ((A : Int) < 28 + (s : Int)) = false := by simp; omega
      have q7 : ((A : Int) - 28).tmod (s : Int) = (r : Int) := by
        rw [Int.tmod_eq_emod_of_nonneg (by omega), hr.out, ← hA.out, ← hs4.out, show ((A : Int) - 28) = ((A - 28 : Nat) : Int) by omega]
        exact (Int.natCast_emod _ _).symm
      rcases HW with ⟨g7, hno⟩ | ⟨g7, HHD⟩
      · have HNO := Lib.hid hno
        clear hno
        have q8 : ((r : Int) != 0) = true := by simp; omega
        have R2c0 := R2_5.out.cell 0 (.int .u8 0) rfl
        have R2c1 := R2_5.out.cell 1 (.slice none 0 0) rfl
        have R2z := R2_5.out.lt
        have R2f := R2_5.out.free
        have R4c0 := R4_5.out.cell 0 (.int .u8 0) rfl
        have R4c1 := R4_5.out.cell 1 (.slice none 0 0) rfl
        have R4z := R4_5.out.lt
        have H6 := Lib.hid (row_two R2_5.out (.int .u8 0) (.slice none 0 0))
        have g0 := H6.out.cell 0 (.int .u8 0) rfl
        have g1 := H6.out.cell 1 (.slice none 0 0) rfl
        have BEL := Lib.hid (below_two HB_5.out (b := w.heap.size) (Nat.le_refl _) (.int .u8 0) (.slice none 0 0))
        go_wp2
        refine bodyPost_ret (v := .tuple #[.agg #[.int .u8 0, .slice none 0 0], .int .i64 0]) (by simp [results, Try.results33, go_sem, g0, g1]) rfl ?_
        exact .inr ⟨HNO.out, ⟨_, _, _, _, rfl⟩, BEL.out⟩
      have q8 : ((r : Int) != 0) = false := by simp; omega
      have hd := Lib.hid HHD
      have hg7 := Lib.hid g7
      clear g7 HHD
      obtain ⟨c, hc⟩ : ∃ c, Hid (c = cnt l) := ⟨_, Lib.hid rfl⟩
      have HCM := Lib.hid (cnt_mul l hd.out)
      rw [← hc.out, ← hs4.out, ← hA.out] at HCM
      have HB_6 := Lib.hid (HB_5.out.alloc HB_5.out.size (.cells #[.int .u8 x, .slice none 0 0] 39))
      have R2_6 := Lib.hid (RowAt.alloc R2_5.out (.cells #[.int .u8 x, .slice none 0 0] 39))
      have R4_6 := Lib.hid (RowAt.alloc R4_5.out (.cells #[.int .u8 x, .slice none 0 0] 39))
      have R9_6 := Lib.hid (RowAt.new w5 #[.int .u8 x, .slice none 0 0] 39 (w5.heap.size) (by first | rfl | simp))
      obtain ⟨b9, hb9⟩ : ∃ b, Hid (b = w5.heap.size) := ⟨_, Lib.hid rfl⟩
      have HB9L := Lib.hid ((show w.heap.size + 1 < b9 by rw [hb9.out]; exact R4_5.out.lt))
      have hb92 := hb9.out
      go_wp2_with fail
      rw [← hb92]
      have HR9 := R9_6
      rw [← hb92] at HR9
      clear hb92
      go_loopw [10] (fun at_ wr => ∃ (p : Nat) (v' : Value) (xs : List ItV), 28 ≤ p ∧ p ≤ A ∧ at_ = .int .i64 p ∧ Hid (∃ j, p = 28 + j * s ∧ j ≤ c ∧ xs.map ItV.it = itsL l s 28 j ∧ ∀ y ∈ xs, mayB x y.d = true) ∧ Hid (RowAt wr w.heap.size #[.int .u8 0, .slice none 0 0]) ∧ Hid (RowAt wr (w.heap.size + 1) #[.int .u8 0, .slice none 0 0]) ∧ Hid (RowAt wr b9 #[.int .u8 x, v']) ∧ Hid (OwnIts wr (b9 + 1) v' xs) ∧ Hid (Below w.heap.size w wr)) (fun at_ _ => A - (intOf at_).toNat)
      case atStart => exact ⟨28, .slice none 0 0, [], by omega, by omega, rfl, Lib.hid ⟨0, by omega, by omega, rfl, fun y hy => by simp at hy⟩, R2_6, R4_6, HR9, Lib.hid (OwnIts.empty _ _ _), HB_6⟩
      case round =>
        obtain ⟨p, v', xs, hp28, hpA, rfl, HJ, HR2q, HR4q, HR9q, HO, HBR⟩ := hrel
        obtain ⟨xv, nv, cv, rfl⟩ : ∃ x n c, v' = .slice x n c := by
          obtain ⟨a, c, e, _⟩ := Own.shape HO.out.row
          exact ⟨a, _, c, e⟩
        by_cases hlt : p < A
        · have hdl : decide ((p : Int) < (A : Int)) = true := by simp; omega
          have hpsA : p + s ≤ A := by
            obtain ⟨j, hj, hjc, _⟩ := HJ.out
            have h := HCM.out.1
            have hjlt : j < c := by
              rcases Nat.lt_or_ge j c with h' | h'
              · exact h'
              · have := Nat.mul_le_mul_right s h'
                omega
            have := Nat.mul_le_mul_right s (show j + 1 ≤ c from hjlt)
            rw [Nat.add_mul, Nat.one_mul] at this
            omega
          obtain ⟨g, hg⟩ : ∃ g, Hid (g = (l.drop p).take 16) := ⟨_, Lib.hid rfl⟩
          obtain ⟨d, hdd⟩ : ∃ d, Hid (d = (l.drop (p + 16)).take (s - 16)) := ⟨_, Lib.hid rfl⟩
          have HGL : Hid (g.length = 16) := Lib.hid (by rw [hg.out, List.length_take, List.length_drop, ← hlen.out]; omega)
          have HDL : Hid (d.length = s - 16) := Lib.hid (by rw [hdd.out, List.length_take, List.length_drop, ← hlen.out]; omega)
          have m2 := mid_addr HV.out hlen.out (p := p + 16) (q := p + s) (by omega) (by omega) ((p : Int) + 16) ((p : Int) + (s : Int)) (by omega) (by omega)
          rw [show p + s - (p + 16) = s - 16 by omega, ← hdd.out] at m2
          have hs2 := m2.2
          have HM2 := Lib.hid hs2
          have hs2 := m2.1
          clear m2
          have hcap : len ≤ cap := h1
          have t1 : IntKind.i64.wrap ((p : Int) + 16) = (p : Int) + 16 := IntWalk.i64_in _ (by omega)
          have t2 : IntKind.i64.wrap ((p : Int) + (s : Int)) = (p : Int) + (s : Int) := IntWalk.i64_in _ (by omega)
          have HBe := Lib.hid (HBR.out.alloc HBR.out.size (.cells #[] 5))
          have hlen0 : b9 + 1 ≤ wr.heap.size := HR9q.out.lt
          go_wp2_with (first
            | (at_builtin; refine wpList_append_byt rfl _ _ rfl (b9 + 1) (.slice (some ⟨wr.heap.size, 0, none⟩) 0 0) [] rfl (OwnB.empty _ _ _) _ d rfl (HM2.out.below HBe.out) (by rw [HDL.out]; simp; omega) (by simp; omega) ?_; intro v1 w1 ho1 hg1 _; rw [List.nil_append] at ho1; obtain ⟨xu, cu, rfl, _, _⟩ := Own.shape ho1; have hb1 := (Below.refl _ _).grown hg1 (Nat.le_refl _) (fun j hj => by simp [ownB] at hj); have HB1 := Lib.hid (HBe.out.trans (hb1.mono HBe.out.size)); have hbb := ((Below.refl wr.heap.size wr).alloc (Nat.le_refl _) (.cells #[] 5)).trans (hb1.mono (by simp)); have HRa2 := Lib.hid (HR2q.out.below hbb); have HRa4 := Lib.hid (HR4q.out.below hbb); have HRa9 := Lib.hid (HR9q.out.below hbb); have HOa := Lib.hid (HO.out.below hbb); have HD1 := Lib.hid ho1; clear ho1 hg1 hb1 hbb hs2))
          obtain ⟨n1, hn1⟩ : ∃ n, Hid (n = w1.heap.size) := ⟨_, Lib.hid rfl⟩
          have HX0 : Hid ((w1.alloc (.cells #[.int .u8 0, .int .u8 0, .int .u8 0, .int .u8 0, .int .u8 0, .int .u8 0, .int .u8 0, .int .u8 0, .int .u8 0, .int .u8 0, .int .u8 0, .int .u8 0, .int .u8 0, .int .u8 0, .int .u8 0, .int .u8 0, .slice xu d.length cu] 49)).heap[n1]? = some (.cells (xiC g (.slice xu d.length cu) 0).toArray 49 (0, 0))) := Lib.hid (by rw [hn1.out]; exact heap_alloc_new w1 _)
          rw [← hn1.out]
          go_loopw [12] (fun i_ wr => ∃ i : Nat, i ≤ 16 ∧ i_ = .int .i64 i ∧ Hid (wr.heap[n1]? = some (.cells (xiC g (.slice xu d.length cu) i).toArray 49 (0, 0))) ∧ Hid (Below n1 w1 wr)) (fun i_ _ => 16 - (intOf i_).toNat)
          case atStart => exact ⟨0, by omega, rfl, HX0, Lib.hid ((Below.refl _ _).alloc (by rw [hn1.out]; exact Nat.le_refl _) _)⟩
          case round =>
            obtain ⟨i, hi, rfl, HX, HBi⟩ := hrel
            by_cases hi16 : i < 16
            · have HBw := Lib.hid (HB1.out.trans (HBi.out.mono (by rw [hn1.out]; exact HB1.out.size)))
              have hgi : (l.map b8)[p + i]? = some (b8 (g.getD i 0)) := by
                have : p + i < l.length := by rw [← hlen.out]; omega
                rw [hg.out]
                simp [List.getD, this, hi16]
              have hby := byt_range (HV.out.below HBw.out) (p + i) _ hgi
              clear hgi
              obtain ⟨gi, hgi⟩ : ∃ c, Hid (c = g.getD i 0) := ⟨_, Lib.hid rfl⟩
              rw [← hgi.out] at hby
              unfold b8 at hby
              have hcl : wr.cell? ⟨n1, i, none⟩ = some (.int .u8 0) := by
                rw [cell_of_row wr n1 i _ _ _ HX.out]
                simp only [List.getElem?_toArray]
                unfold xiC
                have hti : ((g.take i).map b8).length = i := by rw [List.length_map, List.length_take, HGL.out]; omega
                rw [List.getElem?_append_right (by rw [hti]; exact Nat.le_refl _), hti, Nat.sub_self, List.getElem?_append_left (by rw [List.length_replicate]; omega), List.getElem?_replicate, if_pos (by omega)]
              have hfz : wr.frozen? ⟨n1, i, none⟩ = false := by
                unfold World.frozen?
                rw [HX.out]
                simp
              have hdi : decide ((i : Int) < 16) = true := by simp; omega
              have hpi : (p : Int) + (i : Int) = ((p + i : Nat) : Int) := by omega
              have HPI := Lib.hid hpi
              clear hpi
              have hpl : p + i < len := by omega
              have hpl2 : (p : Int) + (i : Int) < (len : Int) := by omega
              have HXs := Lib.hid (row_setCell (i := i) (b8 (g.getD i 0)) HX.out)
              rw [xiC_step g _ i HGL.out hi16, ← hgi.out] at HXs
              unfold b8 at HXs
              have HBs := Lib.hid (HBi.out.setCell (p := ⟨n1, i, none⟩) (Nat.le_refl _) (.int .u8 gi.toNat))
              go_wp2
              go_roundw
              case rel => exact ⟨i + 1, by omega, by go_num, HXs, HBs⟩
              case measure => simp [intOf]; omega
            · obtain rfl : i = 16 := by omega
              have hdi : decide (((16 : Nat) : Int) < 16) = false := by decide
              have HBi' := Lib.hid (show Below w1.heap.size w1 wr by have := HBi.out; rw [hn1.out] at this; exact this)
              have HROW := Lib.hid HX.out
              rw [xiC_16 g _ HGL.out] at HROW
              have HB2' := Lib.hid (HB1.out.trans (HBi'.out.mono HB1.out.size))
              have HR22 := Lib.hid (HRa2.out.below HBi'.out)
              have HR24 := Lib.hid (HRa4.out.below HBi'.out)
              have HR29 := Lib.hid (HRa9.out.below HBi'.out)
              have HOn := Lib.hid (HOa.out.below HBi'.out)
              have HOD := Lib.hid (OwnB.below HD1.out HBi'.out)
              have hbl : n1 < wr.heap.size := (Array.getElem?_eq_some_iff.1 HROW.out).1
              have hdc : wr.cell? ⟨n1, 16, none⟩ = some (.slice xu d.length cu) := by
                rw [cell_of_row wr n1 16 _ _ _ HROW.out]
                simp [HGL.out]
              have hmay := HMAY.out _ d _ HOD.out.byt (by rw [HDL.out]; omega)
              clear HX HBi
              go_wp2_with fail
              refine hmay.mono ?_
              clear hmay
              rintro e w2 ⟨rfl, hb⟩
              have HB2 := Lib.hid (HB2'.out.trans (hb.mono HB2'.out.size))
              have HR2e := Lib.hid (HR22.out.below hb)
              have HR4e := Lib.hid (HR24.out.below hb)
              have HR9e := Lib.hid (HR29.out.below hb)
              have HO2 := Lib.hid (HOn.out.below hb)
              have HOD2 := Lib.hid (OwnB.below HOD.out hb)
              have HROW2 := Lib.hid ((hb.block n1 hbl).trans HROW.out)
              clear hb hdc hbl
              obtain ⟨MB, hMB⟩ : ∃ B, Hid (B = mayB x d) := ⟨_, Lib.hid rfl⟩
              rw [← hMB.out]
              cases MB
              · have HNO : Hid (okB l = false) := Lib.hid (by
                  obtain ⟨j, hj, hjc, _⟩ := HJ.out
                  have h := HCM.out.1
                  have hjlt : j < c := by
                    rcases Nat.lt_or_ge j c with h' | h'
                    · exact h'
                    · have := Nat.mul_le_mul_right s h'
                      omega
                  refine ok_bad l j (by rw [← hc.out]; exact hjlt) ?_
                  rw [← hs4.out, ← hj, ← hK.out]
                  show mayB x ((l.drop (p + 16)).take (s - 16)) = false
                  rw [← hdd.out]
                  exact hMB.out.symm)
                have R2c0 := HR2e.out.cell 0 (.int .u8 0) rfl
                have R2c1 := HR2e.out.cell 1 (.slice none 0 0) rfl
                have R2z := HR2e.out.lt
                have R2f := HR2e.out.free
                have R4c0 := HR4e.out.cell 0 (.int .u8 0) rfl
                have R4c1 := HR4e.out.cell 1 (.slice none 0 0) rfl
                have R4z := HR4e.out.lt
                have H6 := Lib.hid (row_two HR2e.out (.int .u8 0) (.slice none 0 0))
                have g0 := H6.out.cell 0 (.int .u8 0) rfl
                have g1 := H6.out.cell 1 (.slice none 0 0) rfl
                have BEL := Lib.hid (below_two HB2.out (b := w.heap.size) (Nat.le_refl _) (.int .u8 0) (.slice none 0 0))
                go_wp2
                refine bodyPost_ret (v := .tuple #[.agg #[.int .u8 0, .slice none 0 0], .int .i64 0]) (by simp [results, Try.results33, go_sem, g0, g1]) rfl ?_
                exact .inr ⟨HNO.out, ⟨_, _, _, _, rfl⟩, BEL.out⟩
              · skip
                have HXL : Hid ((g.map b8 ++ [Value.slice xu d.length cu]).length = 17) := Lib.hid (by simp [HGL.out])
                obtain ⟨X, hX⟩ : ∃ X, Hid (X = g.map b8 ++ [Value.slice xu d.length cu]) := ⟨_, Lib.hid rfl⟩
                rw [← hX.out] at HXL HROW2
                have rc0 := HR9e.out.cell 1 (.slice xv nv cv) rfl
                have rz := HR9e.out.lt
                have HRA := Lib.hid (HR9e.out.alloc (.cells X.toArray 49))
                have HRA2 := Lib.hid (HR2e.out.alloc (.cells X.toArray 49))
                have HRA4 := Lib.hid (HR4e.out.alloc (.cells X.toArray 49))
                have HBA := Lib.hid (HB2.out.alloc HB2.out.size (.cells X.toArray 49))
                have HOA := Lib.hid (HO2.out.alloc (.cells X.toArray 49))
                have HODA := Lib.hid (OwnB.alloc HOD2.out (.cells X.toArray 49))
                have HXN : Hid (xs.length ≤ 1000000000) := Lib.hid (by
                  obtain ⟨j, hj, hjc, he, _⟩ := HJ.out
                  have := congrArg List.length he
                  rw [List.length_map, itsL_length] at this
                  have := HCM.out.1
                  have := Nat.le_mul_of_pos_right c (show 0 < s by omega)
                  omega)
                have HRD := Lib.hid (rd_one (w := w2) (X := X) (t := 49))
                rw [HXL.out] at HRD
                have HONE : Hid (∀ u ∈ X, u.oneCell' = true) := Lib.hid (fun u hu => by
                  rw [hX.out, List.mem_append] at hu
                  rcases hu with hu | hu
                  · exact b8_oneCell g u hu
                  · rw [List.mem_singleton.1 hu]; rfl)
                have HNE : Hid (w.heap.size ≠ b9 ∧ w.heap.size + 1 ≠ b9) := Lib.hid (by have := HB9L.out; omega)
                go_wp2_with (first
                  | (refine wpList_load_mid rfl 49 _ rfl n1 0 rfl X _ (range_of_row HROW2.out) Try.underlying49 rfl (by rw [HXL.out]; kernel_rfl) ?_)
                  | (refine wpList_bslice_item rfl _ rfl X HXL.out rfl ?_)
                  | (at_builtin; refine wpList_append_item rfl _ _ rfl (b9 + 1) (.slice xv nv cv) xs.length (itsC xs) rfl HOA.out.row (.slice (some ⟨w2.heap.size, 0, none⟩) 1 1) X rfl HRD.out HONE.out HXN.out HRA.out.lt ?_; intro v3 w3 ho3 hg3 _; obtain ⟨x3, c3, rfl, _, _⟩ := Own.shape ho3; have HB3 := Lib.hid (HBA.out.grown hg3 HBA.out.size (fun j hj => by have := (Own.lt HOA.out.row j hj).1; have := HB9L.out; omega)); have HR3 := Lib.hid (HRA.out.grown hg3 (fun e => by have := (Own.lt HOA.out.row _ e).1; omega)); have HR32 := Lib.hid (HRA2.out.grown hg3 (fun e => by have := (Own.lt HOA.out.row _ e).1; have := HB9L.out; omega)); have HR34 := Lib.hid (HRA4.out.grown hg3 (fun e => by have := (Own.lt HOA.out.row _ e).1; have := HB9L.out; omega)); have HO3 := Lib.hid (OwnIts.snoc (x := ⟨g, d, .slice xu d.length cu⟩) HOA.out (by rw [hX.out] at ho3; exact ho3) hg3 HGL.out HODA.out); have rz3 := HR3.out.lt; have rf3 := HR3.out.free; have rc3 := HR3.out.cell 1 (.slice xv nv cv) rfl; have HRS := Lib.hid (show RowAt (w3.setCell ⟨b9, 1, none⟩ (.slice x3 (xs.length + 1) c3)) b9 #[.int .u8 x, .slice x3 (xs.length + 1) c3] from HR3.out.set (i := 1) (u := .slice x3 (xs.length + 1) c3) (by simp)); have HRS2 := Lib.hid (HR32.out.far (k := b9) (i := 1) (u := .slice x3 (xs.length + 1) c3) (fun e => HNE.out.1 e.symm)); have HRS4 := Lib.hid (HR34.out.far (k := b9) (i := 1) (u := .slice x3 (xs.length + 1) c3) (fun e => HNE.out.2 e.symm)); have HBS := Lib.hid (HB3.out.setCell (p := ⟨b9, 1, none⟩) (by show w.heap.size ≤ b9; have := HB9L.out; omega) (.slice x3 (xs.length + 1) c3)); have HOS := Lib.hid (HO3.out.chg (L := [b9]) ((Chg.refl _ _).setCell (b := b9) (i := 1) (by simp) (.slice x3 (xs.length + 1) c3)) (fun y hy => by simp at hy; omega)); clear ho3 hg3 rc0 rz))
                go_roundw
                case rel =>
                  refine ⟨p + s, .slice x3 (xs.length + 1) c3, xs ++ [⟨g, d, .slice xu d.length cu⟩], by omega, hpsA, by go_num, Lib.hid ?_, HRS2, HRS4, HRS, HOS, HBS⟩
                  obtain ⟨j, hj, hjc, he, hm⟩ := HJ.out
                  have h := HCM.out.1
                  have hjlt : j < c := by
                    rcases Nat.lt_or_ge j c with h' | h'
                    · exact h'
                    · have := Nat.mul_le_mul_right s h'
                      omega
                  refine ⟨j + 1, by rw [Nat.add_mul]; omega, hjlt, ?_, fun y hy => ?_⟩
                  · rw [List.map_append, he, itsL_snoc, ← hj]
                    congr 1
                    show [(⟨g, d⟩ : It)] = [itL l p s]
                    rw [hg.out, hdd.out]
                    rfl
                  · rcases List.mem_append.1 hy with hy | hy
                    · exact hm y hy
                    · rw [List.mem_singleton.1 hy]; exact hMB.out.symm
                case measure => simp [intOf]; omega
        · obtain rfl : p = A := by omega
          have hdl : decide ((p : Int) < (p : Int)) = false := by simp
          have R2c0 := HR2q.out.cell 0 (.int .u8 0) rfl
          have R2c1 := HR2q.out.cell 1 (.slice none 0 0) rfl
          have R2z := HR2q.out.lt
          have R2f := HR2q.out.free
          have R9c0 := HR9q.out.cell 0 (.int .u8 x) rfl
          have R9c1 := HR9q.out.cell 1 (.slice xv nv cv) rfl
          have R9z := HR9q.out.lt
          have H6 := Lib.hid (row_two HR2q.out (.int .u8 x) (.slice xv nv cv))
          have g0 := H6.out.cell 0 (.int .u8 x) rfl
          have g1 := H6.out.cell 1 (.slice xv nv cv) rfl
          have BEL := Lib.hid (below_two HBR.out (b := w.heap.size) (Nat.le_refl _) (.int .u8 x) (.slice xv nv cv))
          have OO := Lib.hid (own_two HO.out (b := w.heap.size) (by have := HB9L.out; omega) (.int .u8 x) (.slice xv nv cv))
          have HY : Hid (okB l = true ∧ xs.map ItV.it = itsL l (n4 l 24) 28 (cnt l)) := Lib.hid (by
            obtain ⟨j, hj, hjc, he, hm⟩ := HJ.out
            have h := HCM.out.1
            have hjlt : j = c := by
              rcases Nat.lt_or_ge j c with h' | h'
              · have := Nat.mul_le_mul_right s (show j + 1 ≤ c from h')
                rw [Nat.add_mul] at this
                omega
              · omega
            subst hjlt
            rw [hs4.out, hc.out] at he
            refine ⟨ok_yes l hd.out (fun y hy => ?_), he⟩
            rw [← he] at hy
            obtain ⟨z, hz, rfl⟩ := List.mem_map.1 hy
            rw [← hK.out]
            exact hm z hz)
          go_wp2
          refine bodyPost_ret (v := .tuple #[.agg #[.int .u8 x, .slice xv nv cv], .int .i64 (p : Int)]) (by simp [results, Try.results33, go_sem, g0, g1]) rfl ?_
          refine .inl ⟨HY.out.1, xs, .slice xv nv cv, by rw [← hK.out, ← hA.out], HY.out.2, OO.out.mono (by have := HB9L.out; omega), BEL.out⟩

theorem refOne_calls (v : Value) (l : List UInt8) (w : World) (hv : Byt w v l) (hl : l.length ≤ 1000000000) : Calls Try.prog 33 #[v] w (RdRes l w) := by
  by_cases h : l.length < 28
  · exact refOne_short v l w hv h
  · exact refOne_long v l w hv hl (by omega)
end Go.Proofs.Ytilanncobbdlfaa
