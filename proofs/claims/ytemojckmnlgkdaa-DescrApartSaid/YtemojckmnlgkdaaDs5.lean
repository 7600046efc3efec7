/-
  The contract of descr's Read.
-/
import Derived.Test.YtemojckmnlgkdaaDs4
namespace Go.Proofs.Ytemojckmnlgkdaa
open Go Go.RowKit
set_option linter.unusedVariables false

theorem ahd_beq (M : List UInt8) (b : Bool) (h : decide (M = ahd) = b) : ((sOf M).toList == [0, 2, 241, 14, 157, 210, 175, 74, 223, 104, 238, 73, 138, 169, 52, 125, 55, 86, 101, 167]) = b := by
  have := sOf_beq M ahd
  rw [ByteArray.toList_eq (sOf ahd)] at this
  rw [← h]
  exact this
def Res (l : List UInt8) (w0 : World) (e : Ending) (w' : World) : Prop :=
  ∃ p' d', e = .returned (.tuple #[tmV (resT l), p', d', .int .i64 (resE l)]) ∧ OwnB w' w0.heap.size p' (resB l) ∧ OwnB w' w0.heap.size d' (resD l) ∧ Below w0.heap.size w0 w'
theorem Res.no {l : List UInt8} {w0 w' : World} (h : dsR l = false) (hb : Below w0.heap.size w0 w') : Res l w0 (.returned (.tuple #[.agg #[.int .u16 0, .int .u8 0, .int .u8 0, .int .u8 0, .int .u8 0, .int .u8 0], .slice none 0 0, .slice none 0 0, .int .i64 9])) w' := by
  obtain ⟨h1, h2, h3, h4⟩ := res_no l h
  unfold Res
  rw [h1, h2, h3, h4]
  exact ⟨_, _, rfl, OwnB.empty _ _ _, OwnB.empty _ _ _, hb⟩
theorem Res.yes {l : List UInt8} {w0 w' : World} (h : dsR l = true) (p' d' : Value) (t : Tm) (ht : t = rdT (l.take 16)) (hp : OwnB w' w0.heap.size p' (dsBl l)) (hd : OwnB w' w0.heap.size d' (dsDt l)) (hb : Below w0.heap.size w0 w') : Res l w0 (.returned (.tuple #[tmV t, p', d', .int .i64 0])) w' := by
  obtain ⟨h1, h2, h3, h4⟩ := res_yes l h
  unfold Res
  rw [h1, h2, h3, h4, ht]
  exact ⟨_, _, rfl, hp, hd, hb⟩
theorem below_six {B : Nat} {w w' : World} (h : Below B w w') {b : Nat} (hb : B ≤ b) (d0 d1 d2 d3 d4 d5 : Value) : Below B w ((((((w'.setCell ⟨b, 0, none⟩ d0).setCell ⟨b, 1, none⟩ d1).setCell ⟨b, 2, none⟩ d2).setCell ⟨b, 3, none⟩ d3).setCell ⟨b, 4, none⟩ d4).setCell ⟨b, 5, none⟩ d5) :=
  (((((h.setCell (p := ⟨b, 0, none⟩) hb d0).setCell (p := ⟨b, 1, none⟩) hb d1).setCell (p := ⟨b, 2, none⟩) hb d2).setCell (p := ⟨b, 3, none⟩) hb d3).setCell (p := ⟨b, 4, none⟩) hb d4).setCell (p := ⟨b, 5, none⟩) hb d5
theorem row_six {w : World} {b : Nat} {c0 c1 c2 c3 c4 c5 : Value} (h : RowAt w b #[c0, c1, c2, c3, c4, c5]) (d0 d1 d2 d3 d4 d5 : Value) : RowAt ((((((w.setCell ⟨b, 0, none⟩ d0).setCell ⟨b, 1, none⟩ d1).setCell ⟨b, 2, none⟩ d2).setCell ⟨b, 3, none⟩ d3).setCell ⟨b, 4, none⟩ d4).setCell ⟨b, 5, none⟩ d5) b #[d0, d1, d2, d3, d4, d5] :=
  (((((h.set (i := 0) (u := d0) (by simp)).set (i := 1) (u := d1) (by simp)).set (i := 2) (u := d2) (by simp)).set (i := 3) (u := d3) (by simp)).set (i := 4) (u := d4) (by simp)).set (i := 5) (u := d5) (by simp)
theorem row_six_far {w : World} {k b : Nat} {cs : Array Value} (h : RowAt w k cs) (hne : b ≠ k) (d0 d1 d2 d3 d4 d5 : Value) : RowAt ((((((w.setCell ⟨b, 0, none⟩ d0).setCell ⟨b, 1, none⟩ d1).setCell ⟨b, 2, none⟩ d2).setCell ⟨b, 3, none⟩ d3).setCell ⟨b, 4, none⟩ d4).setCell ⟨b, 5, none⟩ d5) k cs :=
  (((((h.far hne).far hne).far hne).far hne).far hne).far hne
theorem setCell_same {w : World} {b : Nat} {cs : Array Value} (h : RowAt w b cs) (i : Nat) (u : Value) (hi : cs[i]? = some u) : w.setCell ⟨b, i, none⟩ u = w := by
  have hc := h.cell i u hi
  have hh : (w.setCell ⟨b, i, none⟩ u).heap = w.heap := by
    apply Array.ext_getElem?
    intro k
    by_cases e : k = b
    · subst e
      simp only [World.setCell, Array.getElem?_modify]
      unfold World.cell? at hc
      cases ho : w.heap[k]? with
      | none => simp [ho] at hc
      | some o =>
        cases o <;> simp_all
        apply Array.ext_getElem?
        intro j
        by_cases hj : i = j
        · subst hj
          obtain ⟨hlt, hu⟩ := Array.getElem?_eq_some_iff.1 hc
          rw [Array.getElem?_setIfInBounds_self, if_pos hlt, hc]
        · rw [Array.getElem?_setIfInBounds_ne hj]
    · exact heap_setCell_other w _ _ _ (by simpa using e)
  cases w
  simp only [World.setCell] at hh ⊢
  rw [hh]
theorem row_same {w : World} {b : Nat} {c0 c1 c2 c3 c4 c5 : Value} (h : RowAt w b #[c0, c1, c2, c3, c4, c5]) : ((((((w.setCell ⟨b, 0, none⟩ c0).setCell ⟨b, 1, none⟩ c1).setCell ⟨b, 2, none⟩ c2).setCell ⟨b, 3, none⟩ c3).setCell ⟨b, 4, none⟩ c4).setCell ⟨b, 5, none⟩ c5) = w := by
  rw [setCell_same h 0 c0 rfl, setCell_same h 1 c1 rfl, setCell_same h 2 c2 rfl, setCell_same h 3 c3 rfl, setCell_same h 4 c4 rfl, setCell_same h 5 c5 rfl]
theorem own_six {w : World} {b base : Nat} {v : Value} {l : List UInt8} (h : OwnB w base v l) (hb : b < base) (d0 d1 d2 d3 d4 d5 : Value) : OwnB ((((((w.setCell ⟨b, 0, none⟩ d0).setCell ⟨b, 1, none⟩ d1).setCell ⟨b, 2, none⟩ d2).setCell ⟨b, 3, none⟩ d3).setCell ⟨b, 4, none⟩ d4).setCell ⟨b, 5, none⟩ d5) base v l :=
  h.chg' (L := [b]) ((((((((Chg.refl [b] w).setCell (by simp) d0).setCell (by simp) d1).setCell (by simp) d2).setCell (by simp) d3).setCell (by simp) d4).setCell (by simp) d5)) (fun x hx => by simp at hx; omega)

set_option maxRecDepth 100000 in
set_option maxHeartbeats 4000000 in
theorem dsRead_short (v : Value) (l : List UInt8) (w0 : World) (hv : Byt w0 v l) (hl : l.length ≤ 1000000000) (hs : l.length < 40) :
    Calls Try.prog 9 #[v] w0 (Res l w0) := by
  have HV := Lib.hid hv
  obtain ⟨x, cap, rfl, h1, h2⟩ := hv.shut
  have HNO : Hid (dsR l = false) := Lib.hid (dsR_no l (fun h => by have := h.1; omega))
  obtain ⟨len, hlen⟩ : ∃ n, Hid (n = l.length) := ⟨_, Lib.hid rfl⟩
  rw [← hlen.out] at h1 hl HV ⊢
  clear hv
  have S0 := Lib.hid (DSt.start w0 (.slice x len cap))
  have s0z : w0.heap.size + 1 + 1 + 1 < _ := S0.out.k.lt
  have zz0 := S0.out.o.lt
  have hs : len < 40 := by rw [hlen.out]; exact hs
  go_enter Try.func9, Try.ntmps9
  go_wp2_with fail
  refine (S0.out.take HV.out hlen.out 16 (by omega) (by omega) hl).mono ?_
  rintro e w1 ⟨x1, m1, c1, rfl, ho, s, hC⟩
  have S1 := Lib.hid s
  clear ho s hC
  go_wp2_with fail
  refine (S1.out.take HV.out hlen.out 4 (by omega) (by omega) hl).mono ?_
  rintro e w2 ⟨x2, m2, c2, rfl, ho, s, hC⟩
  have S2 := Lib.hid s
  clear ho s hC
  go_wp2_with fail
  refine (S2.out.take_out HV.out hlen.out 20 (by omega) (by omega) (by omega) hl).mono ?_
  rintro e w3 ⟨x3, m3, c3, rfl, s, hC⟩
  have S3 := Lib.hid s
  clear s hC
  have ck := S3.out.k.cell 0 _ rfl
  have kz := S3.out.k.lt
  have oc0 := S3.out.o.cell 0 _ rfl
  have oc1 := S3.out.o.cell 1 _ rfl
  have oc2 := S3.out.o.cell 2 _ rfl
  have oc3 := S3.out.o.cell 3 _ rfl
  have oc4 := S3.out.o.cell 4 _ rfl
  have oc5 := S3.out.o.cell 5 _ rfl
  have of := S3.out.o.free
  have oz := S3.out.o.lt
  have H6 := Lib.hid (row_six S3.out.o (.int .u16 0) (.int .u8 0) (.int .u8 0) (.int .u8 0) (.int .u8 0) (.int .u8 0))
  have e0 := H6.out.cell 0 _ rfl
  have e1 := H6.out.cell 1 _ rfl
  have e2 := H6.out.cell 2 _ rfl
  have e3 := H6.out.cell 3 _ rfl
  have e4 := H6.out.cell 4 _ rfl
  have e5 := H6.out.cell 5 _ rfl
  have BEL := Lib.hid (below_six S3.out.bel (b := w0.heap.size + 1) (by omega) (.int .u16 0) (.int .u8 0) (.int .u8 0) (.int .u8 0) (.int .u8 0) (.int .u8 0))
  go_wp2
  refine bodyPost_ret (v := .tuple #[.agg #[.int .u16 0, .int .u8 0, .int .u8 0, .int .u8 0, .int .u8 0, .int .u8 0], .slice none 0 0, .slice none 0 0, .int .i64 9]) (by simp [results, Try.results9, go_sem, e0, e1, e2, e3, e4, e5]) rfl ?_
  exact Res.no HNO.out BEL.out

set_option maxRecDepth 100000 in
set_option maxHeartbeats 4000000 in
theorem dsRead_long (v : Value) (l : List UInt8) (w0 : World) (hv : Byt w0 v l) (hl : l.length ≤ 1000000000) (hs : 40 ≤ l.length) :
    Calls Try.prog 9 #[v] w0 (Res l w0) := by
  have HV := Lib.hid hv
  obtain ⟨x, cap, rfl, h1, h2⟩ := hv.shut
  obtain ⟨N, hN⟩ : ∃ N, Hid (N = numL ((l.drop 16).take 4)) := ⟨_, Lib.hid rfl⟩
  have HW := rd_ways l hs
  have hN2 : dsN l = N := by rw [hN.out]; rfl
  rw [hN2] at HW
  have HLT : N < 4294967296 := by rw [← hN2]; exact dsN_lt l
  have HBL : Hid (dsBl l = (l.drop 40).take (N - 24)) := Lib.hid (by unfold dsBl; rw [hN2])
  have HDT : Hid (dsDt l = l.drop (16 + N)) := Lib.hid (by unfold dsDt; rw [hN2])
  have HWAYS := Lib.hid HW.2
  clear HW hN2
  have HG : Hid (∀ v W, Byt W v ((l.drop 16).take 4) → Calls Try.prog 19 #[v, .int .i64 0, .int .i64 4] W fun e w' => (∃ E, e = .returned (.tuple #[.int .u64 (N : Int), .int .i64 E])) ∧ Below W.heap.size W w') := Lib.hid (fun v W h => by
    have := get_calls v _ 0 4 W h (by unfold I64; omega) (by unfold I64; omega) (by rw [List.length_take]; omega)
    have hl2 : ((l.drop 16).take 4).length = 4 := by rw [List.length_take, List.length_drop]; omega
    have hg : gotL ((l.drop 16).take 4) 0 4 = numL ((l.drop 16).take 4) := got_all _ 4 hl2 (by decide)
    rw [hg] at this
    rw [hN.out]
    exact this.mono fun e w' ⟨he, hb⟩ => ⟨⟨_, he⟩, hb⟩)
  have HT : Hid (∀ v W, Byt W v (l.take 16) → Calls Try.prog 20 #[v] W fun e w' => e = .returned (.tuple #[tmV (rd (l.take 16)), .int .i64 (rdE (l.take 16))]) ∧ Below W.heap.size W w') := Lib.hid (fun v W h => read_calls v _ W h (by rw [List.length_take]; omega))
  obtain ⟨len, hlen⟩ : ∃ n, Hid (n = l.length) := ⟨_, Lib.hid rfl⟩
  rw [← hlen.out] at h1 hl HV ⊢
  clear hv
  have S0 := Lib.hid (DSt.start w0 (.slice x len cap))
  have s0z : w0.heap.size + 1 + 1 + 1 < _ := S0.out.k.lt
  have zz0 := S0.out.o.lt
  have hs : 40 ≤ len := by rw [hlen.out]; exact hs
  go_enter Try.func9, Try.ntmps9
  go_wp2_with fail
  refine (S0.out.take_in HV.out hlen.out 16 (by omega) (by omega) (by omega) hl).mono ?_
  rintro e w1 ⟨x1, c1, rfl, ho, s, hC⟩
  have S1 := Lib.hid s
  have O1 := Lib.hid (ho.mono (show w0.heap.size + 4 ≤ _ from s0z))
  clear ho s hC s0z zz0
  go_wp2_with fail
  refine (S1.out.take_in HV.out hlen.out 4 (by omega) (by omega) (by omega) hl).mono ?_
  rintro e w2 ⟨x2, c2, rfl, ho, s, hC⟩
  have S2 := Lib.hid s
  have O12 := Lib.hid (own_took (w0 := w0) O1.out (by omega) hC)
  have O2 := Lib.hid (ho.mono (show w0.heap.size + 4 ≤ _ from S1.out.k.lt))
  clear ho s hC
  go_wp2_with fail
  refine (S2.out.take_in HV.out hlen.out 20 (by omega) (by omega) (by omega) hl).mono ?_
  rintro e w3 ⟨x3, c3, rfl, ho, s, hC⟩
  have S3 := Lib.hid s
  have O13 := Lib.hid (own_took (w0 := w0) O12.out (by omega) hC)
  have O23 := Lib.hid (own_took (w0 := w0) O2.out (by omega) hC)
  have O3 := Lib.hid (ho.mono (show w0.heap.size + 4 ≤ _ from S2.out.k.lt))
  clear ho s hC
  have hM : (l.drop (0 + 16 + 4)).take 20 = (l.drop 20).take 20 := rfl
  have hQ : (l.drop (0 + 16)).take 4 = (l.drop 16).take 4 := rfl
  have hT : (l.drop 0).take 16 = l.take 16 := rfl
  rw [hM] at O3
  rw [hQ] at O23
  rw [hT] at O13
  clear hM hQ hT
  obtain ⟨M, hM⟩ : ∃ M, Hid (M = (l.drop 20).take 20) := ⟨_, Lib.hid rfl⟩
  rw [← hM.out] at O3
  have hcv := run_tostring (P := Try.prog) O3.out.byt 22 9 5 Try.underlying22 Try.underlying5 Try.underlying9
  have hnb := ahd_beq M
  obtain ⟨SM, hSM⟩ : ∃ S, Hid (S = sOf M) := ⟨_, Lib.hid rfl⟩
  rw [← hSM.out] at hcv hnb
  have HNB := Lib.hid hnb
  clear hnb
  have ck := S3.out.k.cell 0 (.bool true) rfl
  have kz := S3.out.k.lt
  have HW := HWAYS.out
  rw [← hM.out] at HW
  rcases HW with ⟨hm, hno⟩ | ⟨hm, HW⟩
  · have HNO := Lib.hid hno
    clear hno
    have hnb := HNB.out false (decide_eq_false hm)
    clear hm
    have oc0 := S3.out.o.cell 0 (.int .u16 0) rfl
    have oc1 := S3.out.o.cell 1 (.int .u8 0) rfl
    have oc2 := S3.out.o.cell 2 (.int .u8 0) rfl
    have oc3 := S3.out.o.cell 3 (.int .u8 0) rfl
    have oc4 := S3.out.o.cell 4 (.int .u8 0) rfl
    have oc5 := S3.out.o.cell 5 (.int .u8 0) rfl
    have of := S3.out.o.free
    have oz := S3.out.o.lt
    have H6 := Lib.hid (row_six S3.out.o (.int .u16 0) (.int .u8 0) (.int .u8 0) (.int .u8 0) (.int .u8 0) (.int .u8 0))
    have e0 := H6.out.cell 0 (.int .u16 0) rfl
    have e1 := H6.out.cell 1 (.int .u8 0) rfl
    have e2 := H6.out.cell 2 (.int .u8 0) rfl
    have e3 := H6.out.cell 3 (.int .u8 0) rfl
    have e4 := H6.out.cell 4 (.int .u8 0) rfl
    have e5 := H6.out.cell 5 (.int .u8 0) rfl
    have BEL := Lib.hid (below_six S3.out.bel (b := w0.heap.size + 1) (by omega) (.int .u16 0) (.int .u8 0) (.int .u8 0) (.int .u8 0) (.int .u8 0) (.int .u8 0))
    go_wp2
    refine bodyPost_ret (v := .tuple #[.agg #[.int .u16 0, .int .u8 0, .int .u8 0, .int .u8 0, .int .u8 0, .int .u8 0], .slice none 0 0, .slice none 0 0, .int .i64 9]) (by simp [results, Try.results9, go_sem, e0, e1, e2, e3, e4, e5]) rfl ?_
    exact Res.no HNO.out BEL.out
  have hnb := HNB.out true (decide_eq_true hm)
  clear hm
  have HW2 := Lib.hid HW
  clear HW
  go_wp2_with fail
  refine (HG.out _ _ O23.out.byt).mono ?_
  rintro e w4 ⟨⟨E4, rfl⟩, hb⟩
  have S4 := Lib.hid (S3.out.below hb)
  have O14 := Lib.hid (O13.out.below hb)
  clear hb kz hcv hnb ck
  have HW := HW2.out
  rcases HW with ⟨hn, hno⟩ | ⟨hn, ⟨hn2, hno⟩ | ⟨hn2, HW⟩⟩
  · have HNO := Lib.hid hno
    clear hno
    have t1 : decide ((N : Int) ≤ 24) = true := by simp; omega
    have oc0 := S4.out.o.cell 0 (.int .u16 0) rfl
    have oc1 := S4.out.o.cell 1 (.int .u8 0) rfl
    have oc2 := S4.out.o.cell 2 (.int .u8 0) rfl
    have oc3 := S4.out.o.cell 3 (.int .u8 0) rfl
    have oc4 := S4.out.o.cell 4 (.int .u8 0) rfl
    have oc5 := S4.out.o.cell 5 (.int .u8 0) rfl
    have of := S4.out.o.free
    have oz := S4.out.o.lt
    have H6 := Lib.hid (row_six S4.out.o (.int .u16 0) (.int .u8 0) (.int .u8 0) (.int .u8 0) (.int .u8 0) (.int .u8 0))
    have e0 := H6.out.cell 0 (.int .u16 0) rfl
    have e1 := H6.out.cell 1 (.int .u8 0) rfl
    have e2 := H6.out.cell 2 (.int .u8 0) rfl
    have e3 := H6.out.cell 3 (.int .u8 0) rfl
    have e4 := H6.out.cell 4 (.int .u8 0) rfl
    have e5 := H6.out.cell 5 (.int .u8 0) rfl
    have BEL := Lib.hid (below_six S4.out.bel (b := w0.heap.size + 1) (by omega) (.int .u16 0) (.int .u8 0) (.int .u8 0) (.int .u8 0) (.int .u8 0) (.int .u8 0))
    go_wp2
    refine bodyPost_ret (v := .tuple #[.agg #[.int .u16 0, .int .u8 0, .int .u8 0, .int .u8 0, .int .u8 0, .int .u8 0], .slice none 0 0, .slice none 0 0, .int .i64 9]) (by simp [results, Try.results9, go_sem, e0, e1, e2, e3, e4, e5]) rfl ?_
    exact Res.no HNO.out BEL.out
  · have HNO := Lib.hid hno
    clear hno
    have t1 : decide ((N : Int) ≤ 24) = false := by simp; omega
    have t2 : decide ((65560 : Int) < (N : Int)) = true := by simp; omega
    have oc0 := S4.out.o.cell 0 (.int .u16 0) rfl
    have oc1 := S4.out.o.cell 1 (.int .u8 0) rfl
    have oc2 := S4.out.o.cell 2 (.int .u8 0) rfl
    have oc3 := S4.out.o.cell 3 (.int .u8 0) rfl
    have oc4 := S4.out.o.cell 4 (.int .u8 0) rfl
    have oc5 := S4.out.o.cell 5 (.int .u8 0) rfl
    have of := S4.out.o.free
    have oz := S4.out.o.lt
    have H6 := Lib.hid (row_six S4.out.o (.int .u16 0) (.int .u8 0) (.int .u8 0) (.int .u8 0) (.int .u8 0) (.int .u8 0))
    have e0 := H6.out.cell 0 (.int .u16 0) rfl
    have e1 := H6.out.cell 1 (.int .u8 0) rfl
    have e2 := H6.out.cell 2 (.int .u8 0) rfl
    have e3 := H6.out.cell 3 (.int .u8 0) rfl
    have e4 := H6.out.cell 4 (.int .u8 0) rfl
    have e5 := H6.out.cell 5 (.int .u8 0) rfl
    have BEL := Lib.hid (below_six S4.out.bel (b := w0.heap.size + 1) (by omega) (.int .u16 0) (.int .u8 0) (.int .u8 0) (.int .u8 0) (.int .u8 0) (.int .u8 0))
    go_wp2
    refine bodyPost_ret (v := .tuple #[.agg #[.int .u16 0, .int .u8 0, .int .u8 0, .int .u8 0, .int .u8 0, .int .u8 0], .slice none 0 0, .slice none 0 0, .int .i64 9]) (by simp [results, Try.results9, go_sem, e0, e1, e2, e3, e4, e5]) rfl ?_
    exact Res.no HNO.out BEL.out
  have t1 : decide ((N : Int) ≤ 24) = false := by simp; omega
  have t2 : decide ((65560 : Int) < (N : Int)) = false := by simp; omega
  obtain ⟨m, hm⟩ : ∃ m, m + 24 = N := ⟨N - 24, by omega⟩
  have t3 : IntKind.i64.wrap (N : Int) = (N : Int) := IntWalk.i64_in _ (by omega)
  have t4 : IntKind.i64.wrap ((N : Int) - 24) = (m : Int) := by rw [IntWalk.i64_in _ (by omega)]; omega
  have t5 : (N : Int) - 24 = (m : Int) := by omega
  rcases HW with ⟨hsh, hno⟩ | ⟨hsh, HW⟩
  · have HNO := Lib.hid hno
    clear hno
    rw [← hlen.out] at hsh
    go_wp2_with fail
    refine (S4.out.take_out HV.out hlen.out m (by omega) (by omega) (by omega) hl).mono ?_
    rintro e w5 ⟨x5, m5, c5, rfl, s, hC⟩
    have S5 := Lib.hid s
    clear s hC
    have ck := S5.out.k.cell 0 (.bool false) rfl
    have kz := S5.out.k.lt
    have oc0 := S5.out.o.cell 0 (.int .u16 0) rfl
    have oc1 := S5.out.o.cell 1 (.int .u8 0) rfl
    have oc2 := S5.out.o.cell 2 (.int .u8 0) rfl
    have oc3 := S5.out.o.cell 3 (.int .u8 0) rfl
    have oc4 := S5.out.o.cell 4 (.int .u8 0) rfl
    have oc5 := S5.out.o.cell 5 (.int .u8 0) rfl
    have of := S5.out.o.free
    have oz := S5.out.o.lt
    have H6 := Lib.hid (row_six S5.out.o (.int .u16 0) (.int .u8 0) (.int .u8 0) (.int .u8 0) (.int .u8 0) (.int .u8 0))
    have e0 := H6.out.cell 0 (.int .u16 0) rfl
    have e1 := H6.out.cell 1 (.int .u8 0) rfl
    have e2 := H6.out.cell 2 (.int .u8 0) rfl
    have e3 := H6.out.cell 3 (.int .u8 0) rfl
    have e4 := H6.out.cell 4 (.int .u8 0) rfl
    have e5 := H6.out.cell 5 (.int .u8 0) rfl
    have BEL := Lib.hid (below_six S5.out.bel (b := w0.heap.size + 1) (by omega) (.int .u16 0) (.int .u8 0) (.int .u8 0) (.int .u8 0) (.int .u8 0) (.int .u8 0))
    go_wp2
    refine bodyPost_ret (v := .tuple #[.agg #[.int .u16 0, .int .u8 0, .int .u8 0, .int .u8 0, .int .u8 0, .int .u8 0], .slice none 0 0, .slice none 0 0, .int .i64 9]) (by simp [results, Try.results9, go_sem, e0, e1, e2, e3, e4, e5]) rfl ?_
    exact Res.no HNO.out BEL.out
  rw [← hlen.out] at hsh
  have HW3 := Lib.hid HW
  clear HW
  go_wp2_with fail
  refine (S4.out.take_in HV.out hlen.out m (by omega) (by omega) (by omega) hl).mono ?_
  rintro e w5 ⟨x5, c5, rfl, ho, s, hC⟩
  have S5 := Lib.hid s
  have O15 := Lib.hid (own_took (w0 := w0) O14.out (by omega) hC)
  have O5 := Lib.hid (ho.mono (show w0.heap.size + 4 ≤ _ from S4.out.k.lt))
  clear ho s hC
  have ck := S5.out.k.cell 0 (.bool true) rfl
  have kz := S5.out.k.lt
  have cb := S5.out.b.cell 0 (.slice x len cap) rfl
  have bz := S5.out.b.lt
  have hcast : ((0 + 16 + 4 + 20 + m : Nat) : Int) = 40 + (m : Int) := by omega
  have ca := S5.out.a.cell 0 (.int .i64 (40 + (m : Int))) (by rw [← hcast]; rfl)
  have az := S5.out.a.lt
  obtain ⟨bx, ox, rfl⟩ : ∃ b o, x = some ⟨b, o, none⟩ := by
    obtain ⟨a', c', e, _, _, h3⟩ := HV.out.open
    obtain ⟨b, off, e2, _⟩ := h3 0 (by rw [← hlen.out]; omega)
    simp only [Value.slice.injEq] at e
    exact ⟨b, off, e.1.trans e2⟩
  obtain ⟨y, hsl, HY⟩ := byt_tail HV.out hlen.out (q := 0 + 16 + 4 + 20 + m) (by omega)
  rw [hcast] at hsl
  rw [show 0 + 16 + 4 + 20 + m = 16 + N by omega] at hsl HY
  clear hcast
  have HYD := Lib.hid HY
  clear HY
  go_wp2_with fail
  clear ck kz cb bz ca az hsl
  have HW := HW3.out
  have HZ0 : Hid (tmV tm0 = .agg #[.int .u16 0, .int .u8 0, .int .u8 0, .int .u8 0, .int .u8 0, .int .u8 0]) := Lib.hid rfl
  rcases HW with ⟨hb1, hno⟩ | ⟨hb1, ⟨hq, hno⟩ | ⟨hq, hyes⟩⟩
  · have HNO := Lib.hid hno
    clear hno
    have ht := HT.out _ _ O15.out.byt
    rw [(rd_no _ hb1).1, (rd_no _ hb1).2, HZ0.out] at ht
    refine ht.mono ?_
    rintro e w6 ⟨rfl, hb⟩
    have S6 := Lib.hid (S5.out.below hb)
    clear hb ht
    have oc0 := S6.out.o.cell 0 (.int .u16 0) rfl
    have oc1 := S6.out.o.cell 1 (.int .u8 0) rfl
    have oc2 := S6.out.o.cell 2 (.int .u8 0) rfl
    have oc3 := S6.out.o.cell 3 (.int .u8 0) rfl
    have oc4 := S6.out.o.cell 4 (.int .u8 0) rfl
    have oc5 := S6.out.o.cell 5 (.int .u8 0) rfl
    have of := S6.out.o.free
    have oz := S6.out.o.lt
    have H6 := Lib.hid (row_six S6.out.o (.int .u16 0) (.int .u8 0) (.int .u8 0) (.int .u8 0) (.int .u8 0) (.int .u8 0))
    have e0 := H6.out.cell 0 (.int .u16 0) rfl
    have e1 := H6.out.cell 1 (.int .u8 0) rfl
    have e2 := H6.out.cell 2 (.int .u8 0) rfl
    have e3 := H6.out.cell 3 (.int .u8 0) rfl
    have e4 := H6.out.cell 4 (.int .u8 0) rfl
    have e5 := H6.out.cell 5 (.int .u8 0) rfl
    have ef := H6.out.free
    have ez := H6.out.lt
    have H7 := Lib.hid (row_six H6.out (.int .u16 0) (.int .u8 0) (.int .u8 0) (.int .u8 0) (.int .u8 0) (.int .u8 0))
    have g0 := H7.out.cell 0 (.int .u16 0) rfl
    have g1 := H7.out.cell 1 (.int .u8 0) rfl
    have g2 := H7.out.cell 2 (.int .u8 0) rfl
    have g3 := H7.out.cell 3 (.int .u8 0) rfl
    have g4 := H7.out.cell 4 (.int .u8 0) rfl
    have g5 := H7.out.cell 5 (.int .u8 0) rfl
    have gf := H7.out.free
    have gz := H7.out.lt
    have BEL := Lib.hid (below_six (below_six S6.out.bel (b := w0.heap.size + 1) (by omega) (.int .u16 0) (.int .u8 0) (.int .u8 0) (.int .u8 0) (.int .u8 0) (.int .u8 0)) (b := w0.heap.size + 1) (by omega) (.int .u16 0) (.int .u8 0) (.int .u8 0) (.int .u8 0) (.int .u8 0) (.int .u8 0))
    go_wp2
    refine bodyPost_ret (v := .tuple #[.agg #[.int .u16 0, .int .u8 0, .int .u8 0, .int .u8 0, .int .u8 0, .int .u8 0], .slice none 0 0, .slice none 0 0, .int .i64 9]) (by simp [results, Try.results9, go_sem, g0, g1, g2, g3, g4, g5]) rfl ?_
    exact Res.no HNO.out BEL.out
  · have HNO := Lib.hid hno
    clear hno
    have hq0 := (eqT_iff _ _).1 hq
    have ht := HT.out _ _ O15.out.byt
    rw [(rd_yes _ hb1).1, (rd_yes _ hb1).2, hq0, HZ0.out] at ht
    refine ht.mono ?_
    rintro e w6 ⟨rfl, hb⟩
    have S6 := Lib.hid (S5.out.below hb)
    clear hb ht hq hq0
    have heq : ∀ W : World, (binOp .eql 25 (.agg #[.int .u16 0, .int .u8 0, .int .u8 0, .int .u8 0, .int .u8 0, .int .u8 0]) (.agg #[.int .u16 0, .int .u8 0, .int .u8 0, .int .u8 0, .int .u8 0, .int .u8 0])).run Try.prog W = .ok (.bool true) W := fun W => run_tm_eq tm0 tm0 W
    have oc0 := S6.out.o.cell 0 (.int .u16 0) rfl
    have oc1 := S6.out.o.cell 1 (.int .u8 0) rfl
    have oc2 := S6.out.o.cell 2 (.int .u8 0) rfl
    have oc3 := S6.out.o.cell 3 (.int .u8 0) rfl
    have oc4 := S6.out.o.cell 4 (.int .u8 0) rfl
    have oc5 := S6.out.o.cell 5 (.int .u8 0) rfl
    have of := S6.out.o.free
    have oz := S6.out.o.lt
    have H6 := Lib.hid (row_six S6.out.o (.int .u16 0) (.int .u8 0) (.int .u8 0) (.int .u8 0) (.int .u8 0) (.int .u8 0))
    have e0 := H6.out.cell 0 (.int .u16 0) rfl
    have e1 := H6.out.cell 1 (.int .u8 0) rfl
    have e2 := H6.out.cell 2 (.int .u8 0) rfl
    have e3 := H6.out.cell 3 (.int .u8 0) rfl
    have e4 := H6.out.cell 4 (.int .u8 0) rfl
    have e5 := H6.out.cell 5 (.int .u8 0) rfl
    have ef := H6.out.free
    have ez := H6.out.lt
    have H7 := Lib.hid (row_six H6.out (.int .u16 0) (.int .u8 0) (.int .u8 0) (.int .u8 0) (.int .u8 0) (.int .u8 0))
    have g0 := H7.out.cell 0 (.int .u16 0) rfl
    have g1 := H7.out.cell 1 (.int .u8 0) rfl
    have g2 := H7.out.cell 2 (.int .u8 0) rfl
    have g3 := H7.out.cell 3 (.int .u8 0) rfl
    have g4 := H7.out.cell 4 (.int .u8 0) rfl
    have g5 := H7.out.cell 5 (.int .u8 0) rfl
    have gf := H7.out.free
    have gz := H7.out.lt
    have BEL := Lib.hid (below_six (below_six S6.out.bel (b := w0.heap.size + 1) (by omega) (.int .u16 0) (.int .u8 0) (.int .u8 0) (.int .u8 0) (.int .u8 0) (.int .u8 0)) (b := w0.heap.size + 1) (by omega) (.int .u16 0) (.int .u8 0) (.int .u8 0) (.int .u8 0) (.int .u8 0) (.int .u8 0))
    go_wp2
    refine bodyPost_ret (v := .tuple #[.agg #[.int .u16 0, .int .u8 0, .int .u8 0, .int .u8 0, .int .u8 0, .int .u8 0], .slice none 0 0, .slice none 0 0, .int .i64 9]) (by simp [results, Try.results9, go_sem, g0, g1, g2, g3, g4, g5]) rfl ?_
    exact Res.no HNO.out BEL.out
  have HYES := Lib.hid hyes
  clear hyes
  have ht := HT.out _ _ O15.out.byt
  obtain ⟨⟨y0, mo, dd, hh, mi, se⟩, hTT⟩ : ∃ T, Hid (T = rdT (l.take 16)) := ⟨_, Lib.hid rfl⟩
  rw [(rd_yes _ hb1).1, (rd_yes _ hb1).2, ← hTT.out] at ht
  rw [← hTT.out] at hq
  unfold tmV at ht
  simp only at ht
  have heq := neq0 y0 mo dd hh mi se hq
  refine ht.mono ?_
  rintro e w6 ⟨rfl, hb⟩
  have S6 := Lib.hid (S5.out.below hb)
  have O6 := Lib.hid (O5.out.below hb)
  clear hb ht hq
  have oc0 := S6.out.o.cell 0 (.int .u16 0) rfl
  have oc1 := S6.out.o.cell 1 (.int .u8 0) rfl
  have oc2 := S6.out.o.cell 2 (.int .u8 0) rfl
  have oc3 := S6.out.o.cell 3 (.int .u8 0) rfl
  have oc4 := S6.out.o.cell 4 (.int .u8 0) rfl
  have oc5 := S6.out.o.cell 5 (.int .u8 0) rfl
  have of := S6.out.o.free
  have oz := S6.out.o.lt
  have H6 := Lib.hid (row_six S6.out.o (.int .u16 y0) (.int .u8 mo) (.int .u8 dd) (.int .u8 hh) (.int .u8 mi) (.int .u8 se))
  have e0 := H6.out.cell 0 (.int .u16 y0) rfl
  have e1 := H6.out.cell 1 (.int .u8 mo) rfl
  have e2 := H6.out.cell 2 (.int .u8 dd) rfl
  have e3 := H6.out.cell 3 (.int .u8 hh) rfl
  have e4 := H6.out.cell 4 (.int .u8 mi) rfl
  have e5 := H6.out.cell 5 (.int .u8 se) rfl
  have ef := H6.out.free
  have ez := H6.out.lt
  have BEL := Lib.hid (below_six S6.out.bel (b := w0.heap.size + 1) (by omega) (.int .u16 y0) (.int .u8 mo) (.int .u8 dd) (.int .u8 hh) (.int .u8 mi) (.int .u8 se))
  have HY6 := Lib.hid (HYD.out.below BEL.out)
  have O7 := Lib.hid (own_six O6.out (b := w0.heap.size + 1) (by omega) (.int .u16 y0) (.int .u8 mo) (.int .u8 dd) (.int .u8 hh) (.int .u8 mi) (.int .u8 se))
  have HFB : Hid (dsBl l = (l.drop (0 + 16 + 4 + 20)).take m) := Lib.hid (by rw [HBL.out, show N - 24 = m by omega])
  rw [← HFB.out] at O7
  rw [← HDT.out] at HY6
  clear HBL HDT HFB
  go_wp2_with fail
  have hbl : (dsBl l).length = N - 24 := by rw [dsBl_length l ((dsR_iff l).1 HYES.out)]; rw [hN.out]; rfl
  have hdl : (dsDt l).length = len - (16 + N) := by rw [dsDt, List.length_drop, ← hlen.out, hN.out]; rfl
  refine' wp_region_grows (by kernel_rfl) (fun w' => Hid (RowAt w' (w0.heap.size + 1) #[.int .u16 y0, .int .u8 mo, .int .u8 dd, .int .u8 hh, .int .u8 mi, .int .u8 se]) ∧ Hid (Below w0.heap.size w0 w') ∧ Hid (OwnB w' (w0.heap.size + 4) (.slice x5 m c5) (dsBl l)) ∧ Hid (Byt w' (.slice y (len - (16 + N)) (cap - (16 + N))) (dsDt l))) [isV _, isV _, fun v w' => OwnB w' w0.heap.size v (dsBl l), isV _, fun v w' => OwnB w' w0.heap.size v (dsDt l), fun _ _ => True, fun v w' => OwnB w' w0.heap.size v (dsBl l), fun v w' => OwnB w' w0.heap.size v (dsDt l), isV _] 70 [[], [], [(1, some 66)], [], [(3, some 68)], [(0, some 65)], [(2, some 67)], [(4, some 69)], []] [(0, some 65), (1, some 66), (2, some 67), (3, some 68), (4, some 69), (5, none), (6, some 3), (7, some 4), (8, some 5)] rfl (by kernel_rfl) ⟨fun _ _ _ _ h => h, fun _ _ _ _ h => h, fun _ _ _ hg h => OwnB.below h hg, fun _ _ _ _ h => h, fun _ _ _ hg h => OwnB.below h hg, fun _ _ _ _ h => h, fun _ _ _ hg h => OwnB.below h hg, fun _ _ _ hg h => OwnB.below h hg, fun _ _ _ _ h => h, trivial⟩ (fun _ a a' _ e h => by cases a; cases a'; cases e; exact h) ?hS ?hsteps ?hend
  case hS =>
    intro w' hg
    clear e0 e1 e2 e3 e4 e5 ef ez oc0 oc1 oc2 oc3 oc4 oc5 of oz
    have hg' := (Below.refl _ _).drew.trans (hg.mono (Nat.le_refl _))
    exact ⟨Lib.hid (H6.out.drew.below hg), Lib.hid (BEL.out.drew.trans (hg.mono BEL.out.size)), Lib.hid (OwnB.below (OwnB.below O7.out (Below.refl _ _).drew) hg), Lib.hid ((HY6.out.below (Below.refl _ _).drew).below hg)⟩
  case hsteps =>
    refine ⟨?_, ?_, ?_, ?_, ?_, ?_, ?_, ?_, ?_, trivial⟩
    · -- 0: Op.load 25 t2
      intro w' hs
      simp only [AllV, rgPut]
      obtain ⟨hr, hbb, hown, hyd⟩ := hs
      have r0 := hr.out.cell 0 (.int .u16 y0) rfl
      have r1 := hr.out.cell 1 (.int .u8 mo) rfl
      have r2 := hr.out.cell 2 (.int .u8 dd) rfl
      have r3 := hr.out.cell 3 (.int .u8 hh) rfl
      have r4 := hr.out.cell 4 (.int .u8 mi) rfl
      have r5 := hr.out.cell 5 (.int .u8 se) rfl
      have rf := hr.out.free
      have rz := hr.out.lt
      refine OpOk.run ?_ (fun K hK => ?_)
      · rfl
      go_simp
      refine hK.out _ _ (Grows.refl _) ?_
      exact rfl
    · intro w' hs
      simp only [AllV, rgPut]
      clear hs
      first
        | (refine OpOk.off ?_ ?_ <;> rfl)
        | (refine OpOk.run ?_ (fun K hK => ?_)
           · rfl
           go_simp
           refine hK.out _ _ (Grows.refl _) ?_
           exact rfl)
    · intro w' hs
      simp only [AllV, rdP, isV, forall_eq, rgPut, Act.put, List.setIfInBounds_toArray, List.set_cons_zero, List.set_cons_succ]
      obtain ⟨hr, hbb, hown, hyd⟩ := hs
      first
        | (refine OpOk.off ?_ ?_ <;> rfl)
        | (refine OpOk.run ?_ (fun K hK => ?_)
           · rfl
           go_simp
           go_at_call 21
           refine (clone_calls _ _ _ hown.out.byt (by rw [hbl]; omega)).mono ?_
           rintro e w1 ⟨v1, rfl, ho, hb⟩
           refine hK.out _ _ hb ?_
           exact OwnB.mono ho (hbb.out.size)
          )
    · intro w' hs
      simp only [AllV, rgPut]
      clear hs
      first
        | (refine OpOk.off ?_ ?_ <;> rfl)
        | (refine OpOk.run ?_ (fun K hK => ?_)
           · rfl
           go_simp
           refine hK.out _ _ (Grows.refl _) ?_
           exact rfl)
    · intro w' hs
      simp only [AllV, rdP, isV, forall_eq, rgPut, Act.put, List.setIfInBounds_toArray, List.set_cons_zero, List.set_cons_succ]
      obtain ⟨hr, hbb, hown, hyd⟩ := hs
      first
        | (refine OpOk.off ?_ ?_ <;> rfl)
        | (refine OpOk.run ?_ (fun K hK => ?_)
           · rfl
           go_simp
           go_at_call 21
           refine (clone_calls _ _ _ hyd.out (by rw [hdl]; omega)).mono ?_
           rintro e w1 ⟨v1, rfl, ho, hb⟩
           refine hK.out _ _ hb ?_
           exact OwnB.mono ho (hbb.out.size)
          )
    · -- 5: Op.store 25 t2 t65
      intro w' hs
      simp only [AllV, rdP, isV, forall_eq, rgPut, Act.put, List.setIfInBounds_toArray, List.set_cons_zero, List.set_cons_succ]
      obtain ⟨hr, hbb, hown, hyd⟩ := hs
      have r0 := hr.out.cell 0 (.int .u16 y0) rfl
      have r1 := hr.out.cell 1 (.int .u8 mo) rfl
      have r2 := hr.out.cell 2 (.int .u8 dd) rfl
      have r3 := hr.out.cell 3 (.int .u8 hh) rfl
      have r4 := hr.out.cell 4 (.int .u8 mi) rfl
      have r5 := hr.out.cell 5 (.int .u8 se) rfl
      have rf := hr.out.free
      have rz := hr.out.lt
      refine OpOk.run ?_ (fun K hK => ?_)
      · rfl
      go_simp
      rw [row_same hr.out]
      exact hK.out undef _ (Grows.refl _) trivial
    · -- 6: Op.assign t67
      intro w' hs
      simp only [AllV, rdP, rgPut, Act.put, List.setIfInBounds_toArray, List.set_cons_zero, List.set_cons_succ]
      intro v hv
      refine OpOk.run ?_ (fun K hK => ?_)
      · rfl
      go_simp
      refine hK.out _ _ (Grows.refl _) ?_
      exact hv
    · -- 7: Op.assign t69
      intro w' hs
      simp only [AllV, rdP, rgPut, Act.put, List.setIfInBounds_toArray, List.set_cons_zero, List.set_cons_succ]
      intro v hv
      refine OpOk.run ?_ (fun K hK => ?_)
      · rfl
      go_simp
      refine hK.out _ _ (Grows.refl _) ?_
      exact hv
    · intro w' hs
      simp only [AllV, rgPut]
      clear hs
      first
        | (refine OpOk.off ?_ ?_ <;> rfl)
        | (refine OpOk.run ?_ (fun K hK => ?_)
           · rfl
           go_simp
           refine hK.out _ _ (Grows.refl _) ?_
           exact rfl)
  case hend =>
    intro w' hs
    simp only [AllV, rdP, rgPut, Act.put, List.setIfInBounds_toArray, List.set_cons_zero, List.set_cons_succ]
    intro v0 e0x v1 e1x v2 h2x v3 e3x v4 h4x v5 _ v6 h6 v7 h7 v8 e8
    cases e8
    clear e0x e1x h2x e3x h4x e0 e1 e2 e3 e4 e5 ef ez oc0 oc1 oc2 oc3 oc4 oc5 of oz
    obtain ⟨hr, hbb, hown, hyd⟩ := hs
    have r0 := hr.out.cell 0 (.int .u16 y0) rfl
    have r1 := hr.out.cell 1 (.int .u8 mo) rfl
    have r2 := hr.out.cell 2 (.int .u8 dd) rfl
    have r3 := hr.out.cell 3 (.int .u8 hh) rfl
    have r4 := hr.out.cell 4 (.int .u8 mi) rfl
    have r5 := hr.out.cell 5 (.int .u8 se) rfl
    have rf := hr.out.free
    have rz := hr.out.lt
    have H6' := Lib.hid h6
    have H7' := Lib.hid h7
    clear h6 h7
    go_wp2
    refine bodyPost_ret (v := .tuple #[.agg #[.int .u16 y0, .int .u8 mo, .int .u8 dd, .int .u8 hh, .int .u8 mi, .int .u8 se], v6, v7, .int .i64 0]) (by simp [results, Try.results9, go_sem, r0, r1, r2, r3, r4, r5]) rfl ?_
    exact Res.yes HYES.out v6 v7 _ hTT.out H6'.out H7'.out hbb.out


theorem dsRead_calls (v : Value) (l : List UInt8) (w0 : World) (hv : Byt w0 v l) (hl : l.length ≤ 1000000000) : Calls Try.prog 9 #[v] w0 (Res l w0) := by
  by_cases h : l.length < 40
  · exact dsRead_short v l w0 hv hl h
  · exact dsRead_long v l w0 hv hl (by omega)
end Go.Proofs.Ytemojckmnlgkdaa
