/-
  The contract of siglist's read.
-/
import Derived.Test.YtilanncobbdlfaaSg4
import Derived.Test.YtilanncobbdlfaaHead
namespace Go.Proofs.Ytilanncobbdlfaa
open Go Go.RowKit
set_option linter.unusedVariables false

theorem row_two {w : World} {b : Nat} {c0 c1 : Value} (h : RowAt w b #[c0, c1]) (d0 d1 : Value) : RowAt ((w.setCell ⟨b, 0, none⟩ d0).setCell ⟨b, 1, none⟩ d1) b #[d0, d1] := (h.set (i := 0) (u := d0) (by simp)).set (i := 1) (u := d1) (by simp)
theorem below_two {B : Nat} {w w' : World} (h : Below B w w') {b : Nat} (hb : B ≤ b) (d0 d1 : Value) : Below B w ((w'.setCell ⟨b, 0, none⟩ d0).setCell ⟨b, 1, none⟩ d1) := (h.setCell (p := ⟨b, 0, none⟩) hb d0).setCell (p := ⟨b, 1, none⟩) hb d1
theorem own_two {w : World} {b base : Nat} {v : Value} {xs : List ItV} (h : OwnIts w base v xs) (hb : b < base) (d0 d1 : Value) : OwnIts ((w.setCell ⟨b, 0, none⟩ d0).setCell ⟨b, 1, none⟩ d1) base v xs :=
  h.chg (L := [b]) (((Chg.refl [b] w).setCell (by simp) d0).setCell (by simp) d1) (fun x hx => by simp at hx; omega)
theorem rd_one {w : World} {X : List Value} {t : TypeId} : Rd (w.alloc (.cells X.toArray t)) X.length (.slice (some ⟨w.heap.size, 0, none⟩) 1 1) 1 X := by
  have := Rd.made w X.length X.toArray t 1 1 (0, 0) (by simp) (by omega) (by unfold maxLen; omega)
  rw [Nat.one_mul] at this
  simpa using this
theorem range_of_row {w : World} {b : Nat} {X : List Value} {t : TypeId} {fr : Nat × Nat} (h : w.heap[b]? = some (.cells X.toArray t fr)) : w.rangeAt b 0 X := fun j v hv => by
  rw [Nat.zero_add, cell_of_row w b j _ t fr h]
  simpa using hv

/-- b[p:q], its address known. -/
theorem mid_addr {w : World} {b off len cap p q : Nat} {l : List UInt8} (h : Byt w (.slice (some ⟨b, off, none⟩) len cap) l) (hlen : len = l.length) (hp : p < q) (hq : q ≤ len) (x y : Int) (hx : x = (p : Int)) (hy : y = (q : Int)) :
    (∀ W : World, (Instr.sliceAt 22 (.slice (some ⟨b, off, none⟩) len cap) (some (.int .i64 x)) (some (.int .i64 y)) none).run Try.prog W = .ok (.slice (some ⟨b, off + p, none⟩) (q - p) (cap - p)) W) ∧ Byt w (.slice (some ⟨b, off + p, none⟩) (q - p) (cap - p)) ((l.drop p).take (q - p)) := by
  subst hlen hx hy
  obtain ⟨a', cap', e, hlc, hcm, hc⟩ := h.open
  simp only [Value.slice.injEq] at e
  obtain ⟨rfl, _, rfl⟩ := e
  refine ⟨fun W => ?_, ?_⟩
  · obtain ⟨i, hi, hz0, hz1, hz2⟩ := info_parts infoB
    have b2 : (0 : Int) ≤ (p : Int) ∧ (p : Int) ≤ (q : Int) := by omega
    have b3 : (0 : Int) ≤ (q : Int) ∧ (q : Int) ≤ (cap : Int) := by omega
    have hq2 : q ≤ cap := by omega
    have hpq : p ≤ q := by omega
    have hne : ¬ (cap = p) := by omega
    simp [Instr.sliceAt, Instr.slice, Instr.sliceBounds, Instr.sliceBound, run_underlying Try.underlying22, asIntOf, b2, b3, hpq, hq2, sizeOf, typeInfo, hi, hz1, add0, hne]
    try omega
  · refine Byt.of (by rw [List.length_take, List.length_drop]; omega) (by omega) (by unfold maxLen at hcm ⊢; omega) fun i hi => ?_
    rw [List.length_take, List.length_drop] at hi
    obtain ⟨b', off', e, hcell⟩ := hc (p + i) (by omega)
    cases e
    refine ⟨b, off + p, rfl, ?_⟩
    rw [Nat.add_assoc, hcell]
    simp [List.getD, show i < q - p by omega]
theorem byt_range {w : World} {b off n cap : Nat} {l : List UInt8} (h : Byt w (.slice (some ⟨b, off, none⟩) n cap) l) : w.rangeAt b off (l.map b8) := fun j v hv => by
  obtain ⟨a, c, e, _, _, _, hc⟩ := h
  simp only [Value.slice.injEq] at e
  obtain ⟨rfl, _, _⟩ := e
  obtain ⟨b', off', e, hcell⟩ := hc j v hv
  cases e
  exact hcell
theorem wp_build_item {o : Oper} {a : Act} {w : World} {K : Act → World → Prop} {Q : Exit → Act → World → Prop} (p q : Operand) (ho : o.op = .build 49 #[(0, p), (1, q)]) (g : List UInt8) (hg : g.length = 16) (x : Option Addr) (m c : Nat)
    (hp : a.eval p = .agg (g.map b8).toArray) (hq : a.eval q = .slice x m c) (h : K (a.put o.dst (.agg (g.map b8 ++ [Value.slice x m c]).toArray)) w) : o.wp Try.prog a w K Q := by
  have hb := item_built g hg x m c
  refine wp_build 49 _ ho ?_ ?_
  · simp only [List.map_toArray, List.map_cons, List.map_nil, hp, hq]
    show (Try.prog.built 49 [(0, _), (1, _)]).isSome = true
    rw [hb]
    rfl
  · simp only [List.map_toArray, List.map_cons, List.map_nil, hp, hq]
    show K (a.put o.dst (.agg ((Try.prog.built 49 [(0, _), (1, _)]).getD #[]))) w
    rw [hb]
    exact h

theorem ok_no (l : List UInt8) (h : ¬ hdP l) : okB l = false := by unfold okB; rw [decide_eq_false h, Bool.false_and]
theorem ok_yes (l : List UInt8) (h : hdP l) (h2 : ∀ x ∈ itsL l (n4 l 24) 28 (cnt l), mayB (kd l) x.d = true) : okB l = true := by
  unfold okB
  rw [decide_eq_true h, Bool.true_and, List.all_eq_true]
  exact h2
theorem itsL_mem (l : List UInt8) (s : Nat) : ∀ n p j, j < n → itL l (p + j * s) s ∈ itsL l s p n
  | 0, p, j, h => by omega
  | n + 1, p, 0, h => by unfold itsL; simp
  | n + 1, p, j + 1, h => by
    have := itsL_mem l s n (p + s) j (by omega)
    rw [show p + s + j * s = p + (j + 1) * s by rw [Nat.add_mul]; omega] at this
    unfold itsL
    exact List.mem_cons_of_mem _ this
theorem ok_bad (l : List UInt8) (j : Nat) (hj : j < cnt l) (h : mayB (kd l) (itL l (28 + j * n4 l 24) (n4 l 24)).d = false) : okB l = false := by
  cases e : okB l with
  | false => rfl
  | true =>
    unfold okB at e
    rw [Bool.and_eq_true, List.all_eq_true] at e
    have := e.2 _ (itsL_mem l (n4 l 24) (cnt l) 28 j hj)
    rw [h] at this
    cases this
theorem hd_ways (l : List UInt8) (h28 : 28 ≤ l.length) :
    (kd l = 0 ∧ okB l = false) ∨ (kd l ≠ 0 ∧ ((n4 l 20 ≠ 0 ∧ okB l = false) ∨ (n4 l 20 = 0 ∧ ((n4 l 24 ≤ 16 ∧ okB l = false) ∨ (17 ≤ n4 l 24 ∧ ((8208 < n4 l 24 ∧ okB l = false) ∨ (n4 l 24 ≤ 8208 ∧ ((l.length < n4 l 16 ∧ okB l = false) ∨ (n4 l 16 ≤ l.length ∧
      ((n4 l 16 < 28 + n4 l 24 ∧ okB l = false) ∨ (28 + n4 l 24 ≤ n4 l 16 ∧ (((n4 l 16 - 28) % n4 l 24 ≠ 0 ∧ okB l = false) ∨ ((n4 l 16 - 28) % n4 l 24 = 0 ∧ hdP l))))))))))))) := by
  by_cases h1 : kd l = 0
  · exact .inl ⟨h1, ok_no l (fun h => h.2.1 h1)⟩
  · refine .inr ⟨h1, ?_⟩
    by_cases h2 : n4 l 20 = 0
    · refine .inr ⟨h2, ?_⟩
      by_cases h3 : n4 l 24 ≤ 16
      · exact .inl ⟨h3, ok_no l (fun h => by have := h.2.2.2.1; omega)⟩
      · refine .inr ⟨by omega, ?_⟩
        by_cases h4 : 8208 < n4 l 24
        · exact .inl ⟨h4, ok_no l (fun h => by have := h.2.2.2.2.1; omega)⟩
        · refine .inr ⟨by omega, ?_⟩
          by_cases h5 : l.length < n4 l 16
          · exact .inl ⟨h5, ok_no l (fun h => by have := h.2.2.2.2.2.1; omega)⟩
          · refine .inr ⟨by omega, ?_⟩
            by_cases h6 : n4 l 16 < 28 + n4 l 24
            · exact .inl ⟨h6, ok_no l (fun h => by have := h.2.2.2.2.2.2.1; omega)⟩
            · refine .inr ⟨by omega, ?_⟩
              by_cases h7 : (n4 l 16 - 28) % n4 l 24 = 0
              · exact .inr ⟨h7, h28, h1, h2, by omega, by omega, by omega, by omega, h7⟩
              · exact .inl ⟨h7, ok_no l (fun h => h7 h.2.2.2.2.2.2.2)⟩
    · exact .inl ⟨h2, ok_no l (fun h => h2 h.2.2.1)⟩

/-- What read answers. -/
def RdRes (l : List UInt8) (w : World) (e : Ending) (w' : World) : Prop :=
  (okB l = true ∧ ∃ xs v', e = .returned (.tuple #[.agg #[.int .u8 (kd l), v'], .int .i64 (n4 l 16 : Int)]) ∧ xs.map ItV.it = itsL l (n4 l 24) 28 (cnt l) ∧ OwnIts w' w.heap.size v' xs ∧ Below w.heap.size w w') ∨
  (okB l = false ∧ (∃ (a : Int) (x : Option Addr) (n c : Nat), e = .returned (.tuple #[.agg #[.int .u8 a, .slice x n c], .int .i64 0])) ∧ Below w.heap.size w w')

set_option maxRecDepth 100000 in
set_option maxHeartbeats 1000000 in
theorem sgRead_short (v : Value) (l : List UInt8) (w : World) (hv : Byt w v l) (hs : l.length < 28) : Calls Try.prog 29 #[v] w (RdRes l w) := by
  have HNO : Hid (okB l = false) := Lib.hid (ok_no l (fun h => by have := h.1; omega))
  obtain ⟨a, cap, rfl, h1, h2, _⟩ := hv.open
  unfold maxLen at h2
  clear hv
  obtain ⟨n, hn⟩ : ∃ n, Hid (n = l.length) := ⟨_, Lib.hid rfl⟩
  rw [← hn.out] at h1 hs ⊢
  have t1 : decide ((n : Int) < 28) = true := by simp; omega
  go_enter Try.func29, Try.ntmps29
  go_wp2
  refine bodyPost_ret (v := .tuple #[.agg #[.int .u8 0, .slice none 0 0], .int .i64 0]) (by simp [results, Try.results29, go_sem]) rfl (.inr ⟨HNO.out, ⟨_, _, _, _, rfl⟩, ?_⟩)
  repeat' (first
    | with_reducible exact Below.refl _ _
    | with_reducible refine Below.drew ?_
    | with_reducible refine Below.setCell ?_ ?_ _
    | with_reducible refine Below.alloc ?_ ?_ _
    | omega
    | (simp <;> omega))

set_option maxRecDepth 100000 in
set_option maxHeartbeats 4000000 in
theorem sgRead_long (v : Value) (l : List UInt8) (w : World) (hv : Byt w v l) (hl : l.length ≤ 1000000000) (hs : 28 ≤ l.length) : Calls Try.prog 29 #[v] w (RdRes l w) := by
  have HV := Lib.hid hv
  obtain ⟨bx, ox, cap, e, h1, h2⟩ : ∃ bx ox cap, v = .slice (some ⟨bx, ox, none⟩) l.length cap ∧ l.length ≤ cap ∧ cap ≤ 9223372036854775807 := by
    obtain ⟨a, cap, e, h1, h2, h3⟩ := hv.open
    obtain ⟨b, off, e2, _⟩ := h3 0 (by omega)
    unfold maxLen at h2
    exact ⟨b, off, cap, by rw [e, e2], h1, by omega⟩
  subst e
  clear hv
  obtain ⟨len, hlen⟩ : ∃ n, Hid (n = l.length) := ⟨_, Lib.hid rfl⟩
  have hlv : l.length = len := hlen.out.symm
  rw [hlv] at HV h1 hl hs ⊢
  have HW := hd_ways l (by omega)
  rw [hlv] at HW
  clear hlv
  obtain ⟨K, hK⟩ : ∃ K, Hid (K = kd l) := ⟨_, Lib.hid rfl⟩
  obtain ⟨A, hA⟩ : ∃ n, Hid (n = n4 l 16) := ⟨_, Lib.hid rfl⟩
  obtain ⟨N2, hN2⟩ : ∃ n, Hid (n = n4 l 20) := ⟨_, Lib.hid rfl⟩
  obtain ⟨s, hs4⟩ : ∃ n, Hid (n = n4 l 24) := ⟨_, Lib.hid rfl⟩
  obtain ⟨r, hr⟩ : ∃ n, Hid (n = (n4 l 16 - 28) % n4 l 24) := ⟨_, Lib.hid rfl⟩
  have hA9 := n4_lt l 16
  have hN29 := n4_lt l 20
  have hs9 := n4_lt l 24
  have HNUM : Hid (∀ (p : Nat) (x : Int) (m : Nat), x = (p : Int) → p + 4 ≤ l.length → m = n4 l p → ∀ W, Byt W (.slice (some ⟨bx, ox, none⟩) len cap) l → Calls Try.prog 39 #[.slice (some ⟨bx, ox, none⟩) len cap, .int .i64 x] W fun e w' => e = .returned (.int .i64 (m : Int)) ∧ Below W.heap.size W w') := Lib.hid (fun p x m hx hp hm W h => by
    subst hx hm
    exact number_calls _ l p W h (by rw [← hlen.out]; omega) hp)
  have H16 := Lib.hid (HNUM.out 16 16 A rfl (by have := hlen.out; omega) hA.out)
  have H20 := Lib.hid (HNUM.out 20 20 N2 rfl (by have := hlen.out; omega) hN2.out)
  have H24 := Lib.hid (HNUM.out 24 24 s rfl (by have := hlen.out; omega) hs4.out)
  rw [← hK.out, ← hA.out, ← hN2.out, ← hs4.out] at HW
  have hr2 : (A - 28) % s = r := by rw [hr.out, hA.out, hs4.out]
  rw [hr2] at HW
  clear hr2
  rw [← hA.out] at hA9
  rw [← hN2.out] at hN29
  rw [← hs4.out] at hs9
  have HWAYS := Lib.hid HW
  have hK3 : 0 ≤ K ∧ K ≤ 3 := by rw [hK.out]; exact kdL_bd _
  clear HW HNUM
  have hh := byt_head HV.out hlen.out (q := 16) (by omega)
  have hsl := hh.1
  have HH := Lib.hid hh.2
  clear hh
  have HKO := Lib.hid (fun v W (h : Byt W v (l.take 16)) => kindOf_calls v _ W h)
  rw [show kdL (l.take 16) = K from hK.out.symm] at HKO
  have HMAY := Lib.hid (fun u (d : List UInt8) W (h : Byt W u d) (hd : d.length ≤ 1000000000) => may_calls K u d W h hd)
  have HB_0 := Lib.hid (Below.refl w.heap.size w)
  have HB_1 := Lib.hid (HB_0.out.alloc HB_0.out.size (.cells #[.int .u8 0, .slice none 0 0] 39))
  have R_1 := Lib.hid (RowAt.new w #[.int .u8 0, .slice none 0 0] 39 (w.heap.size) (by first | rfl | simp))
  have BH0 := Lib.hid (HH.out.below HB_1.out)
  go_enter Try.func29, Try.ntmps29
  go_wp2_with fail
  refine (HKO.out _ _ BH0.out).mono ?_
  rintro e w2 ⟨rfl, hb⟩
  have HB_2 := Lib.hid (HB_1.out.trans (hb.mono HB_1.out.size))
  have R_2 := Lib.hid (RowAt.below R_1.out hb)
  clear hsl
  clear hb
  have Rc0 := R_2.out.cell 0 (.int .u8 0) rfl
  have Rc1 := R_2.out.cell 1 (.slice none 0 0) rfl
  have Rz := R_2.out.lt
  have Rf := R_2.out.free
  have HB_3 := Lib.hid (HB_2.out.setCell (p := ⟨w.heap.size, 0, none⟩) (by show _ ≤ w.heap.size; omega) (.int .u8 K))
  have R_3 : Hid (RowAt (w2.setCell ⟨w.heap.size, 0, none⟩ (.int .u8 K)) w.heap.size #[.int .u8 K, .slice none 0 0]) := Lib.hid (R_2.out.set (i := 0) (u := .int .u8 K) (by simp))
  go_wp2_with fail
  clear Rc0 Rc1 Rz Rf
  refine (H16.out _ (HV.out.below HB_3.out)).mono ?_
  rintro e w4 ⟨rfl, hb⟩
  have HB_4 := Lib.hid (HB_3.out.trans (hb.mono HB_3.out.size))
  have R_4 := Lib.hid (RowAt.below R_3.out hb)
  clear hb
  go_wp2_with fail
  refine (H24.out _ (HV.out.below HB_4.out)).mono ?_
  rintro e w5 ⟨rfl, hb⟩
  have HB_5 := Lib.hid (HB_4.out.trans (hb.mono HB_4.out.size))
  have R_5 := Lib.hid (RowAt.below R_4.out hb)
  clear hb
  have HW := HWAYS.out
  rcases HW with ⟨g1, hno⟩ | ⟨g1, HW⟩
  · have HNO := Lib.hid hno
    clear hno
    have q1 : (K == 0) = true := by simpa using g1
    clear g1
    have Rc0 := R_5.out.cell 0 (.int .u8 K) rfl
    have Rc1 := R_5.out.cell 1 (.slice none 0 0) rfl
    have Rz := R_5.out.lt
    have Rf := R_5.out.free
    have H6 := Lib.hid (row_two R_5.out (.int .u8 K) (.slice none 0 0))
    have g0 := H6.out.cell 0 (.int .u8 K) rfl
    have g1 := H6.out.cell 1 (.slice none 0 0) rfl
    have BEL := Lib.hid (below_two HB_5.out (b := w.heap.size) (Nat.le_refl _) (.int .u8 K) (.slice none 0 0))
    go_wp2
    refine bodyPost_ret (v := .tuple #[.agg #[.int .u8 K, .slice none 0 0], .int .i64 0]) (by simp [results, Try.results29, go_sem, g0, g1]) rfl ?_
    exact .inr ⟨HNO.out, ⟨_, _, _, _, rfl⟩, BEL.out⟩
  have q1 : (K == 0) = false := by simpa using g1
  clear g1
  have HW1 := Lib.hid HW
  clear HW
  have Rc0 := R_5.out.cell 0 (.int .u8 K) rfl
  have Rc1 := R_5.out.cell 1 (.slice none 0 0) rfl
  have Rz := R_5.out.lt
  have Rf := R_5.out.free
  go_wp2_with fail
  clear Rc0 Rc1 Rz Rf
  refine (H20.out _ (HV.out.below HB_5.out)).mono ?_
  rintro e w6 ⟨rfl, hb⟩
  have HB_6 := Lib.hid (HB_5.out.trans (hb.mono HB_5.out.size))
  have R_6 := Lib.hid (RowAt.below R_5.out hb)
  clear hb
  have HW := HW1.out
  rcases HW with ⟨g2, hno⟩ | ⟨g2, HW⟩
  · have HNO := Lib.hid hno
    clear hno
    have q2 : ((N2 : Int) != 0) = true := by simp; omega
    have Rc0 := R_6.out.cell 0 (.int .u8 K) rfl
    have Rc1 := R_6.out.cell 1 (.slice none 0 0) rfl
    have Rz := R_6.out.lt
    have Rf := R_6.out.free
    have H6 := Lib.hid (row_two R_6.out (.int .u8 K) (.slice none 0 0))
    have g0 := H6.out.cell 0 (.int .u8 K) rfl
    have g1 := H6.out.cell 1 (.slice none 0 0) rfl
    have BEL := Lib.hid (below_two HB_6.out (b := w.heap.size) (Nat.le_refl _) (.int .u8 K) (.slice none 0 0))
    go_wp2
    refine bodyPost_ret (v := .tuple #[.agg #[.int .u8 K, .slice none 0 0], .int .i64 0]) (by simp [results, Try.results29, go_sem, g0, g1]) rfl ?_
    exact .inr ⟨HNO.out, ⟨_, _, _, _, rfl⟩, BEL.out⟩
  have q2 : ((N2 : Int) != 0) = false := by simp; omega
  have hg2 := Lib.hid g2
  clear g2
  rcases HW with ⟨g3, hno⟩ | ⟨g3, HW⟩
  · have HNO := Lib.hid hno
    clear hno
    have q3 : decide ((s : Int) ≤ 16) = true := by simp; omega
    have Rc0 := R_6.out.cell 0 (.int .u8 K) rfl
    have Rc1 := R_6.out.cell 1 (.slice none 0 0) rfl
    have Rz := R_6.out.lt
    have Rf := R_6.out.free
    have H6 := Lib.hid (row_two R_6.out (.int .u8 K) (.slice none 0 0))
    have g0 := H6.out.cell 0 (.int .u8 K) rfl
    have g1 := H6.out.cell 1 (.slice none 0 0) rfl
    have BEL := Lib.hid (below_two HB_6.out (b := w.heap.size) (Nat.le_refl _) (.int .u8 K) (.slice none 0 0))
    go_wp2
    refine bodyPost_ret (v := .tuple #[.agg #[.int .u8 K, .slice none 0 0], .int .i64 0]) (by simp [results, Try.results29, go_sem, g0, g1]) rfl ?_
    exact .inr ⟨HNO.out, ⟨_, _, _, _, rfl⟩, BEL.out⟩
  have q3 : decide ((s : Int) ≤ 16) = false := by simp; omega
  rcases HW with ⟨g4, hno⟩ | ⟨g4, HW⟩
  · have HNO := Lib.hid hno
    clear hno
    have q4 : decide ((8208 : Int) < (s : Int)) = true := by simp; omega
    have Rc0 := R_6.out.cell 0 (.int .u8 K) rfl
    have Rc1 := R_6.out.cell 1 (.slice none 0 0) rfl
    have Rz := R_6.out.lt
    have Rf := R_6.out.free
    have H6 := Lib.hid (row_two R_6.out (.int .u8 K) (.slice none 0 0))
    have g0 := H6.out.cell 0 (.int .u8 K) rfl
    have g1 := H6.out.cell 1 (.slice none 0 0) rfl
    have BEL := Lib.hid (below_two HB_6.out (b := w.heap.size) (Nat.le_refl _) (.int .u8 K) (.slice none 0 0))
    go_wp2
    refine bodyPost_ret (v := .tuple #[.agg #[.int .u8 K, .slice none 0 0], .int .i64 0]) (by simp [results, Try.results29, go_sem, g0, g1]) rfl ?_
    exact .inr ⟨HNO.out, ⟨_, _, _, _, rfl⟩, BEL.out⟩
  have q4 : decide ((8208 : Int) < (s : Int)) = false := by simp; omega
  rcases HW with ⟨g5, hno⟩ | ⟨g5, HW⟩
  · have HNO := Lib.hid hno
    clear hno
    have q5 : decide ((len : Int) < (A : Int)) = true := by simp; omega
    have Rc0 := R_6.out.cell 0 (.int .u8 K) rfl
    have Rc1 := R_6.out.cell 1 (.slice none 0 0) rfl
    have Rz := R_6.out.lt
    have Rf := R_6.out.free
    have H6 := Lib.hid (row_two R_6.out (.int .u8 K) (.slice none 0 0))
    have g0 := H6.out.cell 0 (.int .u8 K) rfl
    have g1 := H6.out.cell 1 (.slice none 0 0) rfl
    have BEL := Lib.hid (below_two HB_6.out (b := w.heap.size) (Nat.le_refl _) (.int .u8 K) (.slice none 0 0))
    go_wp2
    refine bodyPost_ret (v := .tuple #[.agg #[.int .u8 K, .slice none 0 0], .int .i64 0]) (by simp [results, Try.results29, go_sem, g0, g1]) rfl ?_
    exact .inr ⟨HNO.out, ⟨_, _, _, _, rfl⟩, BEL.out⟩
  have q5 : decide ((len : Int) < (A : Int)) = false := by simp; omega
  have q5n : decide (len < A) = false := by simp; omega
  rcases HW with ⟨g6, hno⟩ | ⟨g6, HW⟩
  · have HNO := Lib.hid hno
    clear hno
    have q6 : decide ((A : Int) < 28 + (s : Int)) = true := by simp; omega
    have Rc0 := R_6.out.cell 0 (.int .u8 K) rfl
    have Rc1 := R_6.out.cell 1 (.slice none 0 0) rfl
    have Rz := R_6.out.lt
    have Rf := R_6.out.free
    have H6 := Lib.hid (row_two R_6.out (.int .u8 K) (.slice none 0 0))
    have g0 := H6.out.cell 0 (.int .u8 K) rfl
    have g1 := H6.out.cell 1 (.slice none 0 0) rfl
    have BEL := Lib.hid (below_two HB_6.out (b := w.heap.size) (Nat.le_refl _) (.int .u8 K) (.slice none 0 0))
    go_wp2
    refine bodyPost_ret (v := .tuple #[.agg #[.int .u8 K, .slice none 0 0], .int .i64 0]) (by simp [results, Try.results29, go_sem, g0, g1]) rfl ?_
    exact .inr ⟨HNO.out, ⟨_, _, _, _, rfl⟩, BEL.out⟩
  have q6 : decide ((A : Int) < 28 + (s : Int)) = false := by simp; omega
  have q7 : ((A : Int) - 28).tmod (s : Int) = (r : Int) := by
    rw [Int.tmod_eq_emod_of_nonneg (by omega), hr.out, ← hA.out, ← hs4.out, show ((A : Int) - 28) = ((A - 28 : Nat) : Int) by omega]
    exact (Int.natCast_emod _ _).symm
  rcases HW with ⟨g7, hno⟩ | ⟨g7, HHD⟩
  · have HNO := Lib.hid hno
    clear hno
    have q8 : ((r : Int) != 0) = true := by simp; omega
    have Rc0 := R_6.out.cell 0 (.int .u8 K) rfl
    have Rc1 := R_6.out.cell 1 (.slice none 0 0) rfl
    have Rz := R_6.out.lt
    have Rf := R_6.out.free
    have H6 := Lib.hid (row_two R_6.out (.int .u8 K) (.slice none 0 0))
    have g0 := H6.out.cell 0 (.int .u8 K) rfl
    have g1 := H6.out.cell 1 (.slice none 0 0) rfl
    have BEL := Lib.hid (below_two HB_6.out (b := w.heap.size) (Nat.le_refl _) (.int .u8 K) (.slice none 0 0))
    go_wp2
    refine bodyPost_ret (v := .tuple #[.agg #[.int .u8 K, .slice none 0 0], .int .i64 0]) (by simp [results, Try.results29, go_sem, g0, g1]) rfl ?_
    exact .inr ⟨HNO.out, ⟨_, _, _, _, rfl⟩, BEL.out⟩
  have q8 : ((r : Int) != 0) = false := by simp; omega
  have hd := Lib.hid HHD
  have hg7 := Lib.hid g7
  clear g7 HHD
  obtain ⟨c, hc⟩ : ∃ c, Hid (c = cnt l) := ⟨_, Lib.hid rfl⟩
  have HCM := Lib.hid (cnt_mul l hd.out)
  rw [← hc.out, ← hs4.out, ← hA.out] at HCM
  have Rc0 := R_6.out.cell 0 (.int .u8 K) rfl
  have Rc1 := R_6.out.cell 1 (.slice none 0 0) rfl
  have Rz := R_6.out.lt
  go_wp2_with fail
  clear Rc0 Rc1 Rz
  go_loopw [6] (fun at_ wr => ∃ (p : Nat) (v' : Value) (xs : List ItV), 28 ≤ p ∧ p ≤ A ∧ at_ = .int .i64 p ∧ Hid (∃ j, p = 28 + j * s ∧ j ≤ c ∧ xs.map ItV.it = itsL l s 28 j ∧ ∀ x ∈ xs, mayB K x.d = true) ∧ Hid (RowAt wr w.heap.size #[.int .u8 K, v']) ∧ Hid (OwnIts wr (w.heap.size + 1) v' xs) ∧ Hid (Below w.heap.size w wr)) (fun at_ _ => A - (intOf at_).toNat)
  case atStart => exact ⟨28, .slice none 0 0, [], by omega, by omega, rfl, Lib.hid ⟨0, by omega, by omega, rfl, fun x hx => by simp at hx⟩, Lib.hid R_6.out, Lib.hid (OwnIts.empty _ _ _), HB_6⟩
  case round =>
    obtain ⟨p, v', xs, hp28, hpA, rfl, HJ, HR, HO, HBR⟩ := hrel
    obtain ⟨xv, nv, cv, rfl⟩ : ∃ x n c, v' = .slice x n c := by
      obtain ⟨a, c, e, _⟩ := Own.shape HO.out.row
      exact ⟨a, _, c, e⟩
    by_cases hlt : p < A
    · have hdl : decide ((p : Int) < (A : Int)) = true := by simp; omega
      have hpsA : p + s ≤ A := by
        obtain ⟨j, hj, hjc, _⟩ := HJ.out
        have h := HCM.out.1
        have hjlt : j < c := by
          rcases Nat.lt_or_ge j c with h' | h'
          · exact h'
          · have := Nat.mul_le_mul_right s h'
            omega
        have := Nat.mul_le_mul_right s (show j + 1 ≤ c from hjlt)
        rw [Nat.add_mul, Nat.one_mul] at this
        omega
      obtain ⟨g, hg⟩ : ∃ g, Hid (g = (l.drop p).take 16) := ⟨_, Lib.hid rfl⟩
      obtain ⟨d, hdd⟩ : ∃ d, Hid (d = (l.drop (p + 16)).take (s - 16)) := ⟨_, Lib.hid rfl⟩
      have HGL : Hid (g.length = 16) := Lib.hid (by rw [hg.out, List.length_take, List.length_drop, ← hlen.out]; omega)
      have HDL : Hid (d.length = s - 16) := Lib.hid (by rw [hdd.out, List.length_take, List.length_drop, ← hlen.out]; omega)
      have m1 := mid_addr HV.out hlen.out (p := p) (q := p + 16) (by omega) (by omega) (p : Int) ((p : Int) + 16) rfl (by omega)
      have m2 := mid_addr HV.out hlen.out (p := p + 16) (q := p + s) (by omega) (by omega) ((p : Int) + 16) ((p : Int) + (s : Int)) (by omega) (by omega)
      rw [show p + 16 - p = 16 by omega, ← hg.out] at m1
      rw [show p + s - (p + 16) = s - 16 by omega, ← hdd.out] at m2
      have hs1 := m1.1
      have hs2 := m2.1
      have HM1 := Lib.hid m1.2
      have HM2 := Lib.hid m2.2
      clear m1 m2
      have hcap : len ≤ cap := h1
      have t1 : IntKind.i64.wrap ((p : Int) + 16) = (p : Int) + 16 := IntWalk.i64_in _ (by omega)
      have t2 : IntKind.i64.wrap ((p : Int) + (s : Int)) = (p : Int) + (s : Int) := IntWalk.i64_in _ (by omega)
      go_wp2_with fail
      obtain ⟨RS, hRS⟩ : ∃ R : List (Value → World → Prop), R = [isV (.slice (some ⟨bx, ox, none⟩) len cap), isV (.int .i64 (p : Int)), isV (.int .i64 (p : Int)), isV (.int .i64 ((p : Int) + 16)), isV (.slice (some ⟨bx, ox + p, none⟩) 16 (cap - p)), isV (.pointer (some ⟨bx, ox + p, none⟩)), isV (.agg (g.map b8).toArray), isV (.slice (some ⟨bx, ox, none⟩) len cap), isV (.int .i64 (p : Int)), isV (.int .i64 ((p : Int) + 16)), isV (.int .i64 (p : Int)), isV (.int .i64 (s : Int)), isV (.int .i64 ((p : Int) + (s : Int))), isV (.slice (some ⟨bx, ox + (p + 16), none⟩) (s - 16) (cap - (p + 16))), fun v w' => ∃ x m c, v = .slice x m c ∧ OwnB w' wr.heap.size (.slice x m c) d, fun v w' => ∃ x m c, v = .agg (g.map b8 ++ [Value.slice x m c]).toArray ∧ OwnB w' wr.heap.size (.slice x m c) d, RowI wr.heap.size, fun _ _ => True] := ⟨_, rfl⟩
      have HST : StableL (GI wr.heap.size g d) RS := by rw [hRS]; exact ⟨fun _ _ _ _ h => h, fun _ _ _ _ h => h, fun _ _ _ _ h => h, fun _ _ _ _ h => h, fun _ _ _ _ h => h, fun _ _ _ _ h => h, fun _ _ _ _ h => h, fun _ _ _ _ h => h, fun _ _ _ _ h => h, fun _ _ _ _ h => h, fun _ _ _ _ h => h, fun _ _ _ _ h => h, fun _ _ _ _ h => h, fun _ _ _ _ h => h, fun _ _ _ hg ⟨x, m, c, e, h⟩ => ⟨x, m, c, e, hg.own h⟩, fun _ _ _ hg ⟨x, m, c, e, h⟩ => ⟨x, m, c, e, hg.own h⟩, fun _ _ _ hg h => hg.rowI HGL.out h, fun _ _ _ _ h => h, trivial⟩
      refine' wp_region_rg2 (by kernel_rfl) (GI wr.heap.size g d) (fun w' => Hid (Below wr.heap.size wr w')) (rdP RS) (RowX wr.heap.size g d) 16 17 84 [[], [], [], [(2, some 55)], [(0, some 53), (1, some 54), (3, some 56)], [(4, some 57)], [(5, some 58)], [], [], [(8, some 61)], [], [], [(10, some 63), (11, some 64)], [(7, some 60), (9, some 62), (12, some 65)], [(13, some 66)], [(6, some 59), (14, some 67)], [], [(16, some 7), (15, some 68)]] [(0, some 53), (1, some 54), (2, some 55), (3, some 56), (4, some 57), (5, some 58), (6, some 59), (7, some 60), (8, some 61), (9, some 62), (10, some 63), (11, some 64), (12, some 65), (13, some 66), (14, some 67), (15, some 68), (16, some 7), (17, none)] rfl (by kernel_rfl) GI.refl GI.trans HST.at (fun _ a a' _ e h => by cases a; cases a'; cases e; exact h) ?hS ?hsteps (fun _ _ _ hg h => hg.rowX h) ?hyz (by decide) ?hz ?hend
      case hS => exact fun w' hg => Lib.hid ((Below.refl _ _).drew.trans hg.bel)
      case hyz => intro ns hns; have e : some _ = some ns := hns; cases e; exact ⟨(16, some 7), by simp, rfl⟩
      case hsteps =>
        rw [hRS]
        refine ⟨?_, ?_, ?_, ?_, ?_, ?_, ?_, ?_, ?_, ?_, ?_, ?_, ?_, ?_, ?_, ?_, ?_, ?_, trivial⟩
        · intro w' hs
          simp only [AllV, rdP, isV, forall_eq, rgPut, Act.put, List.setIfInBounds_toArray, List.set_cons_zero, List.set_cons_succ]
          clear hs
          refine OpOk.run ?_ (fun K hK => ?_)
          · rfl
          go_simp
          refine hK.out _ _ (GI.refl _) ?_
          exact rfl
        · intro w' hs
          simp only [AllV, rdP, isV, forall_eq, rgPut, Act.put, List.setIfInBounds_toArray, List.set_cons_zero, List.set_cons_succ]
          clear hs
          refine OpOk.run ?_ (fun K hK => ?_)
          · rfl
          go_simp
          refine hK.out _ _ (GI.refl _) ?_
          exact rfl
        · intro w' hs
          simp only [AllV, rdP, isV, forall_eq, rgPut, Act.put, List.setIfInBounds_toArray, List.set_cons_zero, List.set_cons_succ]
          clear hs
          refine OpOk.run ?_ (fun K hK => ?_)
          · rfl
          go_simp
          refine hK.out _ _ (GI.refl _) ?_
          exact rfl
        · intro w' hs
          simp only [AllV, rdP, isV, forall_eq, rgPut, Act.put, List.setIfInBounds_toArray, List.set_cons_zero, List.set_cons_succ]
          clear hs
          refine OpOk.run ?_ (fun K hK => ?_)
          · rfl
          go_simp
          refine hK.out _ _ (GI.refl _) ?_
          exact rfl
        · intro w' hs
          simp only [AllV, rdP, isV, forall_eq, rgPut, Act.put, List.setIfInBounds_toArray, List.set_cons_zero, List.set_cons_succ]
          clear hs
          refine OpOk.run ?_ (fun K hK => ?_)
          · rfl
          go_simp
          refine hK.out _ _ (GI.refl _) ?_
          exact rfl
        · intro w' hs
          simp only [AllV, rdP, isV, forall_eq, rgPut, Act.put, List.setIfInBounds_toArray, List.set_cons_zero, List.set_cons_succ]
          clear hs
          refine OpOk.run ?_ (fun K hK => ?_)
          · rfl
          go_simp
          refine hK.out _ _ (GI.refl _) ?_
          exact rfl
        · intro w' hs
          simp only [AllV, rdP, isV, forall_eq, rgPut, Act.put, List.setIfInBounds_toArray, List.set_cons_zero, List.set_cons_succ]
          refine OpOk.run ?_ (fun K hK => ?_)
          · rfl
          refine wp_load_mid 47 _ rfl bx (ox + p) rfl (g.map b8) _ (byt_range ((HM1.out.below HBR.out).below hs.out)) Try.underlying47 rfl (by rw [List.length_map, HGL.out]; kernel_rfl) ?_
          refine hK.out _ _ (GI.refl _) ?_
          exact rfl
        · intro w' hs
          simp only [AllV, rdP, isV, forall_eq, rgPut, Act.put, List.setIfInBounds_toArray, List.set_cons_zero, List.set_cons_succ]
          clear hs
          refine OpOk.run ?_ (fun K hK => ?_)
          · rfl
          go_simp
          refine hK.out _ _ (GI.refl _) ?_
          exact rfl
        · intro w' hs
          simp only [AllV, rdP, isV, forall_eq, rgPut, Act.put, List.setIfInBounds_toArray, List.set_cons_zero, List.set_cons_succ]
          clear hs
          refine OpOk.run ?_ (fun K hK => ?_)
          · rfl
          go_simp
          refine hK.out _ _ (GI.refl _) ?_
          exact rfl
        · intro w' hs
          simp only [AllV, rdP, isV, forall_eq, rgPut, Act.put, List.setIfInBounds_toArray, List.set_cons_zero, List.set_cons_succ]
          clear hs
          refine OpOk.run ?_ (fun K hK => ?_)
          · rfl
          go_simp
          refine hK.out _ _ (GI.refl _) ?_
          exact rfl
        · intro w' hs
          simp only [AllV, rdP, isV, forall_eq, rgPut, Act.put, List.setIfInBounds_toArray, List.set_cons_zero, List.set_cons_succ]
          clear hs
          refine OpOk.run ?_ (fun K hK => ?_)
          · rfl
          go_simp
          refine hK.out _ _ (GI.refl _) ?_
          exact rfl
        · intro w' hs
          simp only [AllV, rdP, isV, forall_eq, rgPut, Act.put, List.setIfInBounds_toArray, List.set_cons_zero, List.set_cons_succ]
          clear hs
          refine OpOk.run ?_ (fun K hK => ?_)
          · rfl
          go_simp
          refine hK.out _ _ (GI.refl _) ?_
          exact rfl
        · intro w' hs
          simp only [AllV, rdP, isV, forall_eq, rgPut, Act.put, List.setIfInBounds_toArray, List.set_cons_zero, List.set_cons_succ]
          clear hs
          refine OpOk.run ?_ (fun K hK => ?_)
          · rfl
          go_simp
          refine hK.out _ _ (GI.refl _) ?_
          exact rfl
        · intro w' hs
          simp only [AllV, rdP, isV, forall_eq, rgPut, Act.put, List.setIfInBounds_toArray, List.set_cons_zero, List.set_cons_succ]
          clear hs
          refine OpOk.run ?_ (fun K hK => ?_)
          · rfl
          go_simp
          refine hK.out _ _ (GI.refl _) ?_
          exact rfl
        · intro w' hs
          simp only [AllV, rdP, isV, forall_eq, rgPut, Act.put, List.setIfInBounds_toArray, List.set_cons_zero, List.set_cons_succ]
          refine OpOk.run ?_ (fun K hK => ?_)
          · rfl
          go_simp
          go_at_call 40
          refine (clone_calls _ _ _ ((HM2.out.below HBR.out).below hs.out) (by rw [HDL.out]; omega)).mono ?_
          rintro e w1 ⟨v1, rfl, ho, hb⟩
          obtain ⟨x, c1, rfl, _, _⟩ := Own.shape ho
          refine hK.out _ _ (GI.of_below hs.out.size hb) ?_
          exact ⟨_, _, _, rfl, OwnB.mono ho hs.out.size⟩
        · intro w' hs
          simp only [AllV, rdP, isV, forall_eq, rgPut, Act.put, List.setIfInBounds_toArray, List.set_cons_zero, List.set_cons_succ]
          intro v hv
          obtain ⟨x, m, c1, rfl, ho⟩ := hv
          refine OpOk.run ?_ (fun K hK => ?_)
          · rfl
          refine wp_build_item _ _ rfl g HGL.out x m c1 rfl rfl ?_
          refine hK.out _ _ (GI.refl _) ?_
          exact ⟨_, _, _, rfl, ho⟩
        · intro w' hs
          simp only [AllV, rdP, isV, forall_eq, rgPut, Act.put, List.setIfInBounds_toArray, List.set_cons_zero, List.set_cons_succ]
          refine OpOk.run ?_ (fun K hK => ?_)
          · rfl
          go_simp
          refine hK.out _ _ (GI.of_below hs.out.size ((Below.refl _ _).alloc (Nat.le_refl _) _)) ?_
          exact ⟨w'.heap.size, _, rfl, hs.out.size, heap_alloc_new w' _, rfl⟩
        · intro w' hs
          simp only [AllV, rdP, rgPut, Act.put, List.setIfInBounds_toArray, List.set_cons_zero, List.set_cons_succ]
          rintro v1 ⟨b, cs, rfl, hN, hrow, hcs⟩ v2 ⟨x, m, c1, rfl, ho⟩
          refine OpOk.run ?_ (fun K hK => ?_)
          · rfl
          refine wp_store_row 49 _ _ rfl b _ rfl rfl 49 cs hrow (by rw [sizeI]; simp [HGL.out]) (by simp [HGL.out, hcs]) (all_oneCell_toArray (fun u hu => by rw [List.mem_append] at hu; rcases hu with hu | hu; exact b8_oneCell g u hu; rw [List.mem_singleton.1 hu]; rfl)) ?_
          exact hK.out undef _ (GI.store hN hrow hcs ho).1 trivial
      case hz =>
        intro o ns ho' hns w' hs vals hv
        have e1 : some _ = some o := ho'
        have e2 : some _ = some ns := hns
        cases e1
        cases e2
        rw [hRS] at hv ⊢
        have h16 := hv (16, some 7) (by simp)
        have h15 := hv (15, some 68) (by simp)
        simp only [rdP] at h15 h16
        obtain ⟨b, cs, e16, hN, hrow, hcs⟩ := h16
        obtain ⟨x, m, c1, e15, ho⟩ := h15
        simp only [List.map_cons, List.map_nil, e15, e16, rgPut, Act.put, List.setIfInBounds_toArray, List.set_cons_zero, List.set_cons_succ]
        refine OpOk.run ?_ (fun K hK => ?_)
        · rfl
        refine wp_store_row 49 _ _ rfl b _ rfl rfl 49 cs hrow (by rw [sizeI]; simp [HGL.out]) (by simp [HGL.out, hcs]) (all_oneCell_toArray (fun u hu => by rw [List.mem_append] at hu; rcases hu with hu | hu; exact b8_oneCell g u hu; rw [List.mem_singleton.1 hu]; rfl)) ?_
        exact hK.out undef _ (GI.store hN hrow hcs ho).1 ⟨trivial, (GI.store hN hrow hcs ho).2⟩
      case hend =>
        intro w' hs vals hv hT
        rw [hRS] at hv
        have z0 : vals 0 = (.slice (some ⟨bx, ox, none⟩) len cap) := hv (0, some 53) (by simp)
        have z1 : vals 1 = (.int .i64 (p : Int)) := hv (1, some 54) (by simp)
        have z2 : vals 2 = (.int .i64 (p : Int)) := hv (2, some 55) (by simp)
        have z3 : vals 3 = (.int .i64 ((p : Int) + 16)) := hv (3, some 56) (by simp)
        have z4 : vals 4 = (.slice (some ⟨bx, ox + p, none⟩) 16 (cap - p)) := hv (4, some 57) (by simp)
        have z5 : vals 5 = (.pointer (some ⟨bx, ox + p, none⟩)) := hv (5, some 58) (by simp)
        have z6 : vals 6 = (.agg (g.map b8).toArray) := hv (6, some 59) (by simp)
        have z7 : vals 7 = (.slice (some ⟨bx, ox, none⟩) len cap) := hv (7, some 60) (by simp)
        have z8 : vals 8 = (.int .i64 (p : Int)) := hv (8, some 61) (by simp)
        have z9 : vals 9 = (.int .i64 ((p : Int) + 16)) := hv (9, some 62) (by simp)
        have z10 : vals 10 = (.int .i64 (p : Int)) := hv (10, some 63) (by simp)
        have z11 : vals 11 = (.int .i64 (s : Int)) := hv (11, some 64) (by simp)
        have z12 : vals 12 = (.int .i64 ((p : Int) + (s : Int))) := hv (12, some 65) (by simp)
        have z13 : vals 13 = (.slice (some ⟨bx, ox + (p + 16), none⟩) (s - 16) (cap - (p + 16))) := hv (13, some 66) (by simp)
        obtain ⟨x14, m14, c14, z14, _⟩ : ∃ x m c, vals 14 = .slice x m c ∧ _ := hv (14, some 67) (by simp)
        obtain ⟨x15, m15, c15, z15, _⟩ : ∃ x m c, vals 15 = .agg (g.map b8 ++ [Value.slice x m c]).toArray ∧ _ := hv (15, some 68) (by simp)
        obtain ⟨b, u, z16, hN, hrow, ho⟩ := hT
        clear hv hRS HST
        simp only [List.map_cons, List.map_nil, z0, z1, z2, z3, z4, z5, z6, z7, z8, z9, z10, z11, z12, z13, z14, z15, z16, rgPut, Act.put, List.setIfInBounds_toArray, List.set_cons_zero, List.set_cons_succ]
        clear z0 z1 z2 z3 z4 z5 z6 z7 z8 z9 z10 z11 z12 z13 z14 z15 z16
        obtain ⟨xu, cu, rfl, _, _⟩ := Own.shape ho
        rw [HDL.out] at ho hrow
        have HROW := Lib.hid hrow
        have HOD := Lib.hid (show OwnB w' (w.heap.size + 1) (.slice xu (s - 16) cu) d from OwnB.mono ho (by have := HR.out.lt; omega))
        have HBn := Lib.hid (HBR.out.trans (hs.out.mono HBR.out.size))
        have HRn := Lib.hid (HR.out.below hs.out)
        have HOn := Lib.hid (HO.out.below hs.out)
        have hbl : b < w'.heap.size := (Array.getElem?_eq_some_iff.1 hrow).1
        have hdc : w'.cell? ⟨b, 16, none⟩ = some (.slice xu (s - 16) cu) := by
          rw [cell_of_row w' b 16 _ _ _ hrow]
          simp [HGL.out]
        have HBN : Hid (w.heap.size + 1 ≤ b) := Lib.hid (by have := HR.out.lt; omega)
        have rc0 := HRn.out.cell 0 (.int .u8 K) rfl
        have rz := HRn.out.lt
        clear hrow ho hs hN hs1 hs2
        have hmay := HMAY.out _ d _ HOD.out.byt (by rw [HDL.out]; omega)
        go_wp2_with fail
        refine hmay.mono ?_
        clear hmay
        rintro e w2 ⟨rfl, hb⟩
        have HB2 := Lib.hid (HBn.out.trans (hb.mono HBn.out.size))
        have HR2 := Lib.hid (HRn.out.below hb)
        have HO2 := Lib.hid (HOn.out.below hb)
        have HOD2 := Lib.hid (OwnB.below HOD.out hb)
        have HROW2 := Lib.hid ((hb.block b hbl).trans HROW.out)
        clear hb rc0 rz hdc hbl
        obtain ⟨MB, hMB⟩ : ∃ B, Hid (B = mayB K d) := ⟨_, Lib.hid rfl⟩
        rw [← hMB.out]
        cases MB
        · have HNO : Hid (okB l = false) := Lib.hid (by
            obtain ⟨j, hj, hjc, _⟩ := HJ.out
            have h := HCM.out.1
            have hjlt : j < c := by
              rcases Nat.lt_or_ge j c with h' | h'
              · exact h'
              · have := Nat.mul_le_mul_right s h'
                omega
            refine ok_bad l j (by rw [← hc.out]; exact hjlt) ?_
            rw [← hs4.out, ← hj, ← hK.out]
            show mayB K ((l.drop (p + 16)).take (s - 16)) = false
            rw [← hdd.out]
            exact hMB.out.symm)
          have Rc0 := HR2.out.cell 0 (.int .u8 K) rfl
          have Rc1 := HR2.out.cell 1 (.slice xv nv cv) rfl
          have Rz := HR2.out.lt
          have Rf := HR2.out.free
          have H6 := Lib.hid (row_two HR2.out (.int .u8 K) (.slice xv nv cv))
          have g0 := H6.out.cell 0 (.int .u8 K) rfl
          have g1 := H6.out.cell 1 (.slice xv nv cv) rfl
          have BEL := Lib.hid (below_two HB2.out (b := w.heap.size) (Nat.le_refl _) (.int .u8 K) (.slice xv nv cv))
          go_wp2
          refine bodyPost_ret (v := .tuple #[.agg #[.int .u8 K, .slice xv nv cv], .int .i64 0]) (by simp [results, Try.results29, go_sem, g0, g1]) rfl ?_
          exact .inr ⟨HNO.out, ⟨_, _, _, _, rfl⟩, BEL.out⟩
        · skip
          have hXL : (g.map b8 ++ [Value.slice xu (s - 16) cu]).length = 17 := by simp [HGL.out]
          have HXL := Lib.hid hXL
          clear hXL
          obtain ⟨X, hX⟩ : ∃ X, Hid (X = g.map b8 ++ [Value.slice xu (s - 16) cu]) := ⟨_, Lib.hid rfl⟩
          rw [← hX.out] at HXL HROW2
          have rc0 := HR2.out.cell 1 (.slice xv nv cv) rfl
          have rz := HR2.out.lt
          have HRA := Lib.hid (HR2.out.alloc (.cells X.toArray 49))
          have HBA := Lib.hid (HB2.out.alloc HB2.out.size (.cells X.toArray 49))
          have HOA := Lib.hid (HO2.out.alloc (.cells X.toArray 49))
          have HODA := Lib.hid (OwnB.alloc HOD2.out (.cells X.toArray 49))
          have HXN : Hid (xs.length ≤ 1000000000) := Lib.hid (by
            obtain ⟨j, hj, hjc, he, _⟩ := HJ.out
            have := congrArg List.length he
            rw [List.length_map, itsL_length] at this
            have := HCM.out.1
            have := Nat.le_mul_of_pos_right c (show 0 < s by omega)
            omega)
          have HRD := Lib.hid (rd_one (w := w2) (X := X) (t := 49))
          rw [HXL.out] at HRD
          have hone : ∀ u ∈ X, u.oneCell' = true := fun u hu => by
            rw [hX.out, List.mem_append] at hu
            rcases hu with hu | hu
            · exact b8_oneCell g u hu
            · rw [List.mem_singleton.1 hu]; rfl
          have HONE := Lib.hid hone
          clear hone
          go_wp2_with (first
            | (refine wpList_load_mid rfl 49 _ rfl b 0 rfl X _ (range_of_row HROW2.out) Try.underlying49 rfl (by rw [HXL.out]; kernel_rfl) ?_)
            | (refine wpList_bslice_item rfl _ rfl X HXL.out rfl ?_)
            | (at_builtin; refine wpList_append_item rfl _ _ rfl (w.heap.size + 1) (.slice xv nv cv) xs.length (itsC xs) rfl HOA.out.row (.slice (some ⟨w2.heap.size, 0, none⟩) 1 1) X rfl HRD.out HONE.out HXN.out HRA.out.lt ?_; intro v3 w3 ho3 hg3 _; obtain ⟨x3, c3, rfl, _, _⟩ := Own.shape ho3; have HB3 := Lib.hid (HBA.out.grown hg3 HBA.out.size (fun j hj => by have := (Own.lt HOA.out.row j hj).1; omega)); have HR3 := Lib.hid (HRA.out.grown hg3 (fun e => by have := (Own.lt HOA.out.row _ e).1; omega)); have HO3 := Lib.hid (OwnIts.snoc (x := ⟨g, d, .slice xu (s - 16) cu⟩) HOA.out (by rw [hX.out] at ho3; exact ho3) hg3 HGL.out HODA.out); have rz3 := HR3.out.lt; have rf3 := HR3.out.free; have rc3 := HR3.out.cell 1 (.slice xv nv cv) rfl; have HRS := Lib.hid (show RowAt (w3.setCell ⟨w.heap.size, 1, none⟩ (.slice x3 (xs.length + 1) c3)) w.heap.size #[.int .u8 K, .slice x3 (xs.length + 1) c3] from HR3.out.set (i := 1) (u := .slice x3 (xs.length + 1) c3) (by simp)); have HBS := Lib.hid (HB3.out.setCell (p := ⟨w.heap.size, 1, none⟩) (Nat.le_refl _) (.slice x3 (xs.length + 1) c3)); have HOS := Lib.hid (HO3.out.chg (L := [w.heap.size]) ((Chg.refl _ _).setCell (b := w.heap.size) (i := 1) (by simp) (.slice x3 (xs.length + 1) c3)) (fun x hx => by simp at hx; omega)); clear ho3 hg3 rc0 rz))
          go_roundw
          case rel =>
            refine ⟨p + s, .slice x3 (xs.length + 1) c3, xs ++ [⟨g, d, .slice xu (s - 16) cu⟩], by omega, hpsA, by go_num, Lib.hid ?_, HRS, HOS, HBS⟩
            obtain ⟨j, hj, hjc, he, hm⟩ := HJ.out
            have h := HCM.out.1
            have hjlt : j < c := by
              rcases Nat.lt_or_ge j c with h' | h'
              · exact h'
              · have := Nat.mul_le_mul_right s h'
                omega
            refine ⟨j + 1, by rw [Nat.add_mul]; omega, hjlt, ?_, fun x hx => ?_⟩
            · rw [List.map_append, he, itsL_snoc, ← hj]
              congr 1
              show [(⟨g, d⟩ : It)] = [itL l p s]
              rw [hg.out, hdd.out]
              rfl
            · rcases List.mem_append.1 hx with hx | hx
              · exact hm x hx
              · rw [List.mem_singleton.1 hx]; exact hMB.out.symm
          case measure => simp [intOf]; omega
    · obtain rfl : p = A := by omega
      have hdl : decide ((p : Int) < (p : Int)) = false := by simp
      have Rc0 := HR.out.cell 0 (.int .u8 K) rfl
      have Rc1 := HR.out.cell 1 (.slice xv nv cv) rfl
      have Rz := HR.out.lt
      have Rf := HR.out.free
      have H6 := Lib.hid (row_two HR.out (.int .u8 K) (.slice xv nv cv))
      have g0 := H6.out.cell 0 (.int .u8 K) rfl
      have g1 := H6.out.cell 1 (.slice xv nv cv) rfl
      have BEL := Lib.hid (below_two HBR.out (b := w.heap.size) (Nat.le_refl _) (.int .u8 K) (.slice xv nv cv))
      have OO := Lib.hid (own_two HO.out (b := w.heap.size) (by omega) (.int .u8 K) (.slice xv nv cv))
      have HY : Hid (okB l = true ∧ xs.map ItV.it = itsL l (n4 l 24) 28 (cnt l)) := Lib.hid (by
        obtain ⟨j, hj, hjc, he, hm⟩ := HJ.out
        have h := HCM.out.1
        have hjlt : j = c := by
          rcases Nat.lt_or_ge j c with h' | h'
          · have := Nat.mul_le_mul_right s (show j + 1 ≤ c from h')
            rw [Nat.add_mul] at this
            omega
          · omega
        subst hjlt
        rw [hs4.out, hc.out] at he
        refine ⟨ok_yes l hd.out (fun x hx => ?_), he⟩
        rw [← he] at hx
        obtain ⟨y, hy, rfl⟩ := List.mem_map.1 hx
        rw [← hK.out]
        exact hm y hy)
      go_wp2
      refine bodyPost_ret (v := .tuple #[.agg #[.int .u8 K, .slice xv nv cv], .int .i64 (p : Int)]) (by simp [results, Try.results29, go_sem, g0, g1]) rfl ?_
      refine .inl ⟨HY.out.1, xs, .slice xv nv cv, by rw [← hK.out, ← hA.out], HY.out.2, OO.out.mono (by omega), BEL.out⟩

theorem sgRead_calls (v : Value) (l : List UInt8) (w : World) (hv : Byt w v l) (hl : l.length ≤ 1000000000) : Calls Try.prog 29 #[v] w (RdRes l w) := by
  by_cases h : l.length < 28
  · exact sgRead_short v l w hv h
  · exact sgRead_long v l w hv hl (by omega)
end Go.Proofs.Ytilanncobbdlfaa
