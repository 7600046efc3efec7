/-
  The contracts of siglist's Read and of the document's own.
-/
import Derived.Test.YtilanncobbdlfaaSg6
namespace Go.Proofs.Ytilanncobbdlfaa
open Go Go.RowKit
set_option linter.unusedVariables false

/-- One list more. -/
theorem OwnLis.snoc {w w' : World} {base : Nat} {v v' : Value} {xs : List LiV} {x : LiV} (h : OwnLis w base v xs) (hr : Own w' base 39 2 v' (xs.length + 1) (lisC xs ++ liC x)) (hg : w.grownBy w' (ownB v)) (hk : 0 ≤ x.k ∧ x.k ≤ 255) (hx : OwnIts w base x.v x.i)
    (hp : ∀ y ∈ xs, ∀ k, ownB y.v = some k → ownB x.v ≠ some k) : OwnLis w' base v' (xs ++ [x]) := by
  have h1 : ∀ {u : Value} {s n : Nat} {cs : List Value}, Own w base 49 s u n cs → Own w' base 49 s u n cs := fun hu => Own.kept hu hg (fun k hk e => own_kinds h.row hu (by decide) k e hk)
  have h2 : ∀ {u : Value} {l : List UInt8}, OwnB w base u l → OwnB w' base u l := fun hu => Own.kept hu hg (fun k hk e => own_kinds h.row hu (by decide) k e hk)
  have hm : ∀ {y : LiV}, y ∈ xs ++ [x] → y ∈ xs ∨ y = x := fun hy => (List.mem_append.1 hy).imp id List.mem_singleton.1
  refine ⟨by rw [lisC_snoc, List.length_append]; exact hr, fun y hy => ?_, fun y hy => ?_, fun y hy => ?_, fun y hy => ?_, fun i j y z hi hj hij k hk1 hk2 => ?_⟩
  · rcases hm hy with hy | rfl
    · exact h.kind y hy
    · exact hk
  · rcases hm hy with hy | rfl
    · exact h1 (h.its y hy)
    · exact h1 hx.row
  · rcases hm hy with hy | rfl
    · exact h.len y hy
    · exact hx.len
  · rcases hm hy with hy | rfl
    · exact fun z hz => h2 (h.byt y hy z hz)
    · exact fun z hz => h2 (hx.byt z hz)
  · have at_ : ∀ {i : Nat} {y : LiV}, (xs ++ [x])[i]? = some y → (i < xs.length ∧ xs[i]? = some y) ∨ (i = xs.length ∧ y = x) := fun {i y} hi => by
      by_cases hlt : i < xs.length
      · rw [List.getElem?_append_left hlt] at hi; exact .inl ⟨hlt, hi⟩
      · have hle : i < (xs ++ [x]).length := (List.getElem?_eq_some_iff.1 hi).1
        rw [List.length_append] at hle
        simp only [List.length_cons, List.length_nil] at hle
        obtain rfl : i = xs.length := by omega
        rw [List.getElem?_append_right (Nat.le_refl _), Nat.sub_self] at hi
        simp only [List.getElem?_cons_zero, Option.some.injEq] at hi
        exact .inr ⟨rfl, hi.symm⟩
    rcases at_ hi with ⟨h3, hi2⟩ | ⟨h3, e3⟩
    · rcases at_ hj with ⟨h4, hj2⟩ | ⟨h4, e4⟩
      · exact h.part i j y z hi2 hj2 hij k hk1 hk2
      · rw [e4] at hk2; exact hp y (List.mem_of_getElem? hi2) k hk1 hk2
    · rcases at_ hj with ⟨h4, hj2⟩ | ⟨h4, e4⟩
      · rw [e3] at hk1; exact hp z (List.mem_of_getElem? hj2) k hk2 hk1
      · exact hij (h3.trans h4.symm)
theorem OwnLis.alloc {w : World} {base : Nat} {v : Value} {xs : List LiV} (h : OwnLis w base v xs) (o : Obj) : OwnLis (w.alloc o) base v xs := h.below ((Below.refl _ _).alloc (Nat.le_refl _) o)
theorem OwnLis.lt_its {w : World} {base : Nat} {v : Value} {xs : List LiV} (h : OwnLis w base v xs) : ∀ y ∈ xs, ∀ k, ownB y.v = some k → base ≤ k ∧ k < w.heap.size := fun y hy k hk => Own.lt (h.its y hy) k hk

/-- b[n:], of bytes that are there. -/
theorem byt_rest {w : World} {a : Option Addr} {len cap p : Nat} {l : List UInt8} (h : Byt w (.slice a len cap) l) (hlen : len = l.length) (h0 : 0 < len) (hp : p ≤ len) :
    ∃ y, (∀ W : World, (Instr.sliceAt 22 (.slice a len cap) (some (.int .i64 (p : Int))) none none).run Try.prog W = .ok (.slice y (len - p) (cap - p)) W) ∧ Byt w (.slice y (len - p) (cap - p)) (l.drop p) := by
  subst hlen
  obtain ⟨a', cap', e, hlc, hcm, hc⟩ := h.open
  simp only [Value.slice.injEq] at e
  obtain ⟨rfl, _, rfl⟩ := e
  obtain ⟨b, off, rfl, _⟩ := hc 0 (by omega)
  refine ⟨if cap = p then some ⟨b, off, none⟩ else some ⟨b, off + p, none⟩, fun W => ?_, ?_⟩
  · obtain ⟨i, hi, hz0, hz1, hz2⟩ := info_parts infoB
    have b2 : (0 : Int) ≤ (p : Int) ∧ (p : Int) ≤ (l.length : Int) := by omega
    simp [Instr.sliceAt, Instr.slice, Instr.sliceBounds, Instr.sliceBound, run_underlying Try.underlying22, asIntOf, b2, sizeOf, typeInfo, hi, hz1, add0]
    try omega
  · refine Byt.of (by rw [List.length_drop]) (by omega) (by unfold maxLen at hcm ⊢; omega) fun i hi => ?_
    rw [List.length_drop] at hi
    obtain ⟨b', off', e, hcell⟩ := hc (p + i) (by omega)
    cases e
    refine ⟨b, off + p, by rw [if_neg (by omega)], ?_⟩
    rw [Nat.add_assoc, hcell]
    simp [List.getD]

/-- What Read answers. -/
def RsRes (l : List UInt8) (w : World) (e : Ending) (w' : World) : Prop :=
  ∃ v' xs, e = .returned (.tuple #[v', .int .i64 (resE l)]) ∧ xs.map LiV.li = resL l ∧ OwnLis w' w.heap.size v' xs ∧ Below w.heap.size w w'
theorem rs_big {l : List UInt8} {w w' : World} (h : 65536 < l.length) (hb : Below w.heap.size w w') : RsRes l w (.returned (.tuple #[.slice none 0 0, .int .i64 10])) w' := by
  refine ⟨.slice none 0 0, [], ?_, ?_, OwnLis.empty _ _ none, hb⟩
  · unfold resE; rw [if_pos h]
  · unfold resL; rw [if_pos h]; rfl
theorem rs_none {l : List UInt8} {w w' : World} (h : l.length ≤ 65536) (hn : rdLs l = none) (hb : Below w.heap.size w w') : RsRes l w (.returned (.tuple #[.slice none 0 0, .int .i64 9])) w' := by
  refine ⟨.slice none 0 0, [], ?_, ?_, OwnLis.empty _ _ none, hb⟩
  · unfold resE; rw [if_neg (by omega), hn]; rfl
  · unfold resL; rw [if_neg (by omega), hn]; rfl
theorem rs_some {l : List UInt8} {w w' : World} {v' : Value} {xs : List LiV} (h : l.length ≤ 65536) (hn : rdLs l = some (xs.map LiV.li)) (ho : OwnLis w' w.heap.size v' xs) (hb : Below w.heap.size w w') : RsRes l w (.returned (.tuple #[v', .int .i64 0])) w' := by
  refine ⟨_, xs, ?_, ?_, ho, hb⟩
  · unfold resE; rw [if_neg (by omega), hn]; rfl
  · unfold resL; rw [if_neg (by omega), hn]; rfl
/-- One step of the reading. -/
theorem rd_step {l m : List UInt8} {P : List Li} (h : rdLs l = (rdLs m).map (P ++ ·)) (hm : m ≠ []) (hok : okB m = true) : rdLs l = (rdLs (m.drop (n4 m 16))).map ((P ++ [li1 m]) ++ ·) := by
  rw [h, rdLs_step m hm, if_pos hok, Option.map_map]
  congr 1
  funext q
  simp
theorem rd_stop {l m : List UInt8} {P : List Li} (h : rdLs l = (rdLs m).map (P ++ ·)) (hm : m ≠ []) (hok : okB m = false) : rdLs l = none := by
  rw [h, rdLs_step m hm, hok]
  rfl

def lenOf : Value → Nat
  | .slice _ n _ => n
  | _ => 0

set_option maxRecDepth 100000 in
set_option maxHeartbeats 4000000 in
theorem sgReadAll_calls (v : Value) (l : List UInt8) (w : World) (hv : Byt w v l) (hl : l.length ≤ 1000000000) : Calls Try.prog 15 #[v] w (RsRes l w) := by
  have HV := Lib.hid hv
  obtain ⟨a0, cap0, rfl, h1, h2, _⟩ := hv.open
  unfold maxLen at h2
  clear hv
  obtain ⟨len, hlen⟩ : ∃ n, Hid (n = l.length) := ⟨_, Lib.hid rfl⟩
  rw [← hlen.out] at HV h1 hl ⊢
  by_cases hbig : 65536 < len
  · have t1 : decide ((65536 : Int) < (len : Int)) = true := by simp; omega
    have HB : Hid (65536 < l.length) := Lib.hid (by rw [← hlen.out]; exact hbig)
    go_enter Try.func15, Try.ntmps15
    go_wp2
    go_ret2
    exact rs_big HB.out (Below.refl _ _)
  · have t1 : decide ((65536 : Int) < (len : Int)) = false := by simp; omega
    have HL : Hid (l.length ≤ 65536) := Lib.hid (by rw [← hlen.out]; omega)
    go_enter Try.func15, Try.ntmps15
    go_wp2
    go_loopw [0, 4] (fun b_ out_ wr => ∃ (m : List UInt8) (a : Option Addr) (n cap : Nat) (x : Option Addr) (nx cx : Nat) (xs : List LiV), n ≤ 65536 ∧ n ≤ cap ∧ cap ≤ 9223372036854775807 ∧ b_ = .slice a n cap ∧ out_ = .slice x nx cx ∧ Hid (n = m.length) ∧ Hid (Byt w (.slice a n cap) m) ∧ Hid (rdLs l = (rdLs m).map (xs.map LiV.li ++ ·)) ∧ Hid (OwnLis wr w.heap.size (.slice x nx cx) xs) ∧ Hid (xs.length + n ≤ 65536) ∧ Hid (Below w.heap.size w wr)) (fun b_ _ _ => lenOf b_)
    case atStart => exact ⟨l, a0, len, cap0, none, 0, 0, [], by omega, h1, h2, rfl, rfl, hlen, HV, Lib.hid (by simp), Lib.hid (OwnLis.empty _ _ _), Lib.hid (by simp; omega), Lib.hid (Below.refl _ _)⟩
    case round =>
      obtain ⟨m, a, n, cap, x, nx, cx, xs, hn6, hnc, hcap, rfl, rfl, HML, HMw, HRD, HO, HXL, HB⟩ := hrel
      have HM := Lib.hid (HMw.out.below HB.out)
      by_cases hlt : 0 < n
      · have hdl : decide ((0 : Int) < (n : Int)) = true := by simp; omega
        have HNE : Hid (m ≠ []) := Lib.hid (fun e => by have := HML.out; rw [e] at this; simp at this; omega)
        go_wp2_with fail
        have hr := sgRead_calls _ m _ HM.out (by rw [← HML.out]; omega)
        refine hr.mono ?_
        clear hr
        rintro e w1 hr
        rcases hr with ⟨hok, ys, u, rfl, hmap, hown, hb⟩ | ⟨hok, ⟨q0, q1, q2, q3, rfl⟩, hb⟩
        · obtain ⟨xu, cu, rfl, _, _⟩ := Own.shape hown.row
          obtain ⟨nu, hnu⟩ : ∃ n, Hid (n = ys.length) := ⟨_, Lib.hid rfl⟩
          rw [← hnu.out] at hown ⊢
          have hbd := okB_len m hok
          have hkd := kdL_bd (m.take 16)
          obtain ⟨K, hK⟩ : ∃ K, Hid (K = kd m) := ⟨_, Lib.hid rfl⟩
          obtain ⟨N, hN⟩ : ∃ N, Hid (N = n4 m 16) := ⟨_, Lib.hid rfl⟩
          rw [show kdL (m.take 16) = K from hK.out.symm] at hkd
          rw [← hN.out] at hbd
          rw [← hK.out, ← hN.out]
          have hb1 := hbd.1
          have hb2 : N ≤ n := by rw [HML.out]; exact hbd.2
          clear hbd
          have HST := Lib.hid (rd_step HRD.out HNE.out hok)
          rw [← hN.out] at HST
          have HMAP := Lib.hid hmap
          have HOW := Lib.hid hown
          have HB1 := Lib.hid (HB.out.trans (hb.mono HB.out.size))
          have HO1 := Lib.hid (HO.out.below hb)
          have HPT : Hid (∀ y ∈ xs, ∀ k, ownB y.v = some k → ownB (.slice xu nu cu) ≠ some k) := Lib.hid (fun y hy k hk e => by
            have h3 := (HO.out.lt_its y hy k hk).2
            have h4 := (Own.lt hown.row k e).1
            omega)
          have HSZ := Lib.hid HB.out.size
          obtain ⟨y1, hsl, HYs⟩ := byt_rest HMw.out HML.out hlt hb2
          have HY1 := Lib.hid HYs
          clear HYs
          clear hb hmap hown
          have hN0 : ((N : Int) == 0) = false := by simp; omega
          have HBA := Lib.hid ((HB1.out.alloc HB1.out.size (.cells #[.int .u8 K, .slice xu nu cu] 39)).alloc (by have := HB1.out.size; simp; omega) (.cells #[.int .u8 K, .slice xu nu cu] 39))
          have HOA := Lib.hid ((HO1.out.alloc (.cells #[.int .u8 K, .slice xu nu cu] 39)).alloc (.cells #[.int .u8 K, .slice xu nu cu] 39))
          have HOWA := Lib.hid ((HOW.out.alloc (.cells #[.int .u8 K, .slice xu nu cu] 39)).alloc (.cells #[.int .u8 K, .slice xu nu cu] 39))
          have HRA : Hid (Rd ((w1.alloc (.cells #[.int .u8 K, .slice xu nu cu] 39)).alloc (.cells #[.int .u8 K, .slice xu nu cu] 39)) 2 (.slice (some ⟨w1.heap.size + 1, 0, none⟩) 1 1) 1 [.int .u8 K, .slice xu nu cu]) := Lib.hid (by
            have := rd_one (w := w1.alloc (.cells #[.int .u8 K, .slice xu nu cu] 39)) (X := [.int .u8 K, .slice xu nu cu]) (t := 39)
            rw [show (w1.alloc (.cells #[.int .u8 K, .slice xu nu cu] 39)).heap.size = w1.heap.size + 1 by simp] at this
            exact this)
          have hxn : nx = xs.length := by
            obtain ⟨a', c', e, _⟩ := Own.shape HO.out.row
            simp only [Value.slice.injEq] at e
            exact e.2.1
          have HXN := Lib.hid hxn
          clear hxn
          go_wp2_with (first
            | (at_builtin; refine wpList_append_list rfl _ _ rfl w.heap.size (.slice x nx cx) xs.length (lisC xs) rfl HOA.out.row (.slice (some ⟨w1.heap.size + 1, 0, none⟩) 1 1) [.int .u8 K, .slice xu nu cu] rfl HRA.out (by intro u hu; simp only [List.mem_cons, List.not_mem_nil, or_false] at hu; rcases hu with hu | hu <;> (rw [hu]; rfl)) (by have := HXL.out; omega) HBA.out.size ?_; intro v3 w3 ho3 hg3 _; obtain ⟨x3, c3, rfl, _, _⟩ := Own.shape ho3; have HB3 := Lib.hid (HBA.out.grown hg3 HBA.out.size (fun j hj => (Own.lt HOA.out.row j hj).1)); have HO3 := Lib.hid (OwnLis.snoc (x := ⟨K, ys, .slice xu nu cu⟩) HOA.out ho3 hg3 (by show 0 ≤ K ∧ K ≤ 255; omega) (HOWA.out.mono (by have := HSZ.out; omega)) HPT.out); clear ho3 hg3))
          go_roundw
          case rel =>
            refine ⟨m.drop N, y1, n - N, cap - N, x3, xs.length + 1, c3, xs ++ [⟨K, ys, .slice xu nu cu⟩], by omega, by omega, by omega, rfl, rfl, Lib.hid (by rw [List.length_drop, ← HML.out]), HY1, Lib.hid ?_, HO3, Lib.hid (by rw [List.length_append]; have := HXL.out; simp; omega), HB3⟩
            rw [List.map_append]
            show rdLs l = Option.map (fun q => (List.map LiV.li xs ++ [(⟨K, ys.map ItV.it⟩ : Li)]) ++ q) _
            rw [HMAP.out, hK.out]
            exact HST.out
          case measure => simp [lenOf]; omega
        · have HSTOP := Lib.hid (rd_stop HRD.out HNE.out hok)
          have HB1 := Lib.hid (HB.out.trans (hb.mono HB.out.size))
          clear hb
          go_wp2
          go_ret2
          exact rs_none HL.out HSTOP.out (HB1.out.alloc HB1.out.size _)
      · have hdl : decide ((0 : Int) < (n : Int)) = false := by simp; omega
        go_wp2
        go_ret2
        refine rs_some HL.out ?_ HO.out HB.out
        have hn0 : m = [] := List.eq_nil_of_length_eq_zero (by rw [← HML.out]; omega)
        have := HRD.out
        rw [hn0, rdLs_nil] at this
        rw [this]
        simp

set_option maxRecDepth 100000 in
set_option maxHeartbeats 4000000 in
theorem refReadAll_calls (v : Value) (l : List UInt8) (w : World) (hv : Byt w v l) (hl : l.length ≤ 1000000000) : Calls Try.prog 21 #[v] w (RsRes l w) := by
  have HV := Lib.hid hv
  obtain ⟨a0, cap0, rfl, h1, h2, _⟩ := hv.open
  unfold maxLen at h2
  clear hv
  obtain ⟨len, hlen⟩ : ∃ n, Hid (n = l.length) := ⟨_, Lib.hid rfl⟩
  rw [← hlen.out] at HV h1 hl ⊢
  by_cases hbig : 65536 < len
  · have t1 : decide ((65536 : Int) < (len : Int)) = true := by simp; omega
    have HB : Hid (65536 < l.length) := Lib.hid (by rw [← hlen.out]; exact hbig)
    go_enter Try.func21, Try.ntmps21
    go_wp2
    go_ret2
    exact rs_big HB.out (Below.refl _ _)
  · have t1 : decide ((65536 : Int) < (len : Int)) = false := by simp; omega
    have HL : Hid (l.length ≤ 65536) := Lib.hid (by rw [← hlen.out]; omega)
    go_enter Try.func21, Try.ntmps21
    go_wp2
    go_loopw [5, 4] (fun at_ out_ wr => ∃ (p : Nat) (x : Option Addr) (nx cx : Nat) (xs : List LiV), p ≤ len ∧ at_ = .int .i64 p ∧ out_ = .slice x nx cx ∧ Hid (rdLs l = (rdLs (l.drop p)).map (xs.map LiV.li ++ ·)) ∧ Hid (OwnLis wr w.heap.size (.slice x nx cx) xs) ∧ Hid (xs.length ≤ p) ∧ Hid (Below w.heap.size w wr)) (fun at_ _ _ => len - (intOf at_).toNat)
    case atStart => exact ⟨0, none, 0, 0, [], by omega, rfl, rfl, Lib.hid (by simp), Lib.hid (OwnLis.empty _ _ _), Lib.hid (by simp), Lib.hid (Below.refl _ _)⟩
    case round =>
      obtain ⟨p, x, nx, cx, xs, hp, rfl, rfl, HRD, HO, HXL, HB⟩ := hrel
      by_cases hlt : p < len
      · have hdl : decide ((p : Int) < (len : Int)) = true := by simp; omega
        obtain ⟨y0, hsl, HY⟩ := byt_rest (HV.out.below HB.out) hlen.out (by omega) (p := p) (by omega)
        obtain ⟨m, hm⟩ : ∃ m, Hid (m = l.drop p) := ⟨_, Lib.hid rfl⟩
        rw [← hm.out] at HY HRD
        have HML : Hid (m.length = len - p) := Lib.hid (by rw [hm.out, List.length_drop, ← hlen.out])
        have HNE : Hid (m ≠ []) := Lib.hid (fun e => by have := HML.out; rw [e] at this; simp at this; omega)
        have HM := Lib.hid HY
        clear HY
        go_wp2_with fail
        have hr := refOne_calls _ m _ HM.out (by rw [HML.out]; omega)
        refine hr.mono ?_
        clear hr
        rintro e w1 hr
        rcases hr with ⟨hok, ys, u, rfl, hmap, hown, hb⟩ | ⟨hok, ⟨q0, q1, q2, q3, rfl⟩, hb⟩
        · obtain ⟨xu, cu, rfl, _, _⟩ := Own.shape hown.row
          obtain ⟨nu, hnu⟩ : ∃ n, Hid (n = ys.length) := ⟨_, Lib.hid rfl⟩
          rw [← hnu.out] at hown ⊢
          have hbd := okB_len m hok
          have hkd := kdL_bd (m.take 16)
          obtain ⟨K, hK⟩ : ∃ K, Hid (K = kd m) := ⟨_, Lib.hid rfl⟩
          obtain ⟨N, hN⟩ : ∃ N, Hid (N = n4 m 16) := ⟨_, Lib.hid rfl⟩
          rw [show kdL (m.take 16) = K from hK.out.symm] at hkd
          rw [← hN.out] at hbd
          rw [← hK.out, ← hN.out]
          have hb1 := hbd.1
          have hb2 : N ≤ len - p := by rw [← HML.out]; exact hbd.2
          clear hbd
          have HST := Lib.hid (rd_step HRD.out HNE.out hok)
          rw [← hN.out] at HST
          have HMAP := Lib.hid hmap
          have HOW := Lib.hid hown
          have HB1 := Lib.hid (HB.out.trans (hb.mono HB.out.size))
          have HO1 := Lib.hid (HO.out.below hb)
          have HPT : Hid (∀ y ∈ xs, ∀ k, ownB y.v = some k → ownB (.slice xu nu cu) ≠ some k) := Lib.hid (fun y hy k hk e => by
            have h3 := (HO.out.lt_its y hy k hk).2
            have h4 := (Own.lt hown.row k e).1
            omega)
          have HSZ := Lib.hid HB.out.size
          clear hb hmap hown
          have hN0 : ((N : Int) == 0) = false := by simp; omega
          have HBA := Lib.hid ((HB1.out.alloc HB1.out.size (.cells #[.int .u8 K, .slice xu nu cu] 39)).alloc (by have := HB1.out.size; simp; omega) (.cells #[.int .u8 K, .slice xu nu cu] 39))
          have HOA := Lib.hid ((HO1.out.alloc (.cells #[.int .u8 K, .slice xu nu cu] 39)).alloc (.cells #[.int .u8 K, .slice xu nu cu] 39))
          have HOWA := Lib.hid ((HOW.out.alloc (.cells #[.int .u8 K, .slice xu nu cu] 39)).alloc (.cells #[.int .u8 K, .slice xu nu cu] 39))
          have HRA : Hid (Rd ((w1.alloc (.cells #[.int .u8 K, .slice xu nu cu] 39)).alloc (.cells #[.int .u8 K, .slice xu nu cu] 39)) 2 (.slice (some ⟨w1.heap.size + 1, 0, none⟩) 1 1) 1 [.int .u8 K, .slice xu nu cu]) := Lib.hid (by
            have := rd_one (w := w1.alloc (.cells #[.int .u8 K, .slice xu nu cu] 39)) (X := [.int .u8 K, .slice xu nu cu]) (t := 39)
            rw [show (w1.alloc (.cells #[.int .u8 K, .slice xu nu cu] 39)).heap.size = w1.heap.size + 1 by simp] at this
            exact this)
          have hxn : nx = xs.length := by
            obtain ⟨a', c', e, _⟩ := Own.shape HO.out.row
            simp only [Value.slice.injEq] at e
            exact e.2.1
          have HXN := Lib.hid hxn
          clear hxn
          go_wp2_with (first
            | (at_builtin; refine wpList_append_list rfl _ _ rfl w.heap.size (.slice x nx cx) xs.length (lisC xs) rfl HOA.out.row (.slice (some ⟨w1.heap.size + 1, 0, none⟩) 1 1) [.int .u8 K, .slice xu nu cu] rfl HRA.out (by intro u hu; simp only [List.mem_cons, List.not_mem_nil, or_false] at hu; rcases hu with hu | hu <;> (rw [hu]; rfl)) (by have := HXL.out; omega) HBA.out.size ?_; intro v3 w3 ho3 hg3 _; obtain ⟨x3, c3, rfl, _, _⟩ := Own.shape ho3; have HB3 := Lib.hid (HBA.out.grown hg3 HBA.out.size (fun j hj => (Own.lt HOA.out.row j hj).1)); have HO3 := Lib.hid (OwnLis.snoc (x := ⟨K, ys, .slice xu nu cu⟩) HOA.out ho3 hg3 (by show 0 ≤ K ∧ K ≤ 255; omega) (HOWA.out.mono (by have := HSZ.out; omega)) HPT.out); clear ho3 hg3))
          go_roundw
          case rel =>
            refine ⟨p + N, x3, xs.length + 1, c3, xs ++ [⟨K, ys, .slice xu nu cu⟩], by omega, by go_num, rfl, Lib.hid ?_, HO3, Lib.hid (by rw [List.length_append]; have := HXL.out; simp; omega), HB3⟩
            rw [List.map_append]
            show rdLs l = Option.map (fun q => (List.map LiV.li xs ++ [(⟨K, ys.map ItV.it⟩ : Li)]) ++ q) _
            rw [HMAP.out, hK.out]
            have h5 := HST.out
            rw [hm.out, List.drop_drop] at h5
            rw [hm.out]
            exact h5
          case measure => simp [intOf]; omega
        · have HSTOP := Lib.hid (rd_stop HRD.out HNE.out hok)
          have HB1 := Lib.hid (HB.out.trans (hb.mono HB.out.size))
          clear hb
          go_wp2
          go_ret2
          exact rs_none HL.out HSTOP.out (HB1.out.alloc HB1.out.size _)
      · have hdl : decide ((p : Int) < (len : Int)) = false := by simp; omega
        go_wp2
        go_ret2
        refine rs_some HL.out ?_ HO.out HB.out
        have := HRD.out
        rw [List.drop_of_length_le (by rw [← hlen.out]; omega), rdLs_nil] at this
        rw [this]
        simp
end Go.Proofs.Ytilanncobbdlfaa
