/-
  The contract of twins: the same lists, in memory of the call's own.
-/
import Derived.Test.YtilanncobbdlfaaSg20
import Derived.Test.YtilanncobbdlfaaRg3
namespace Go.Proofs.Ytilanncobbdlfaa
open Go Go.RowKit
set_option linter.unusedVariables false

theorem op2_append_item {w : World} {o : Oper} {a : Act} {K : Act → World → Prop} {Q : Exit → Act → World → Prop} (s x : Operand)
    (ho : o.op = .call { callee := .builtin .append, args := #[s, x], argTypes := #[37, 37] })
    (base : Nat) (v : Value) (n : Nat) (xs : List Value) (hs : a.eval s = v) (hown : Own w base 49 17 v n xs) (y : Value) (news : List Value) (hxe : a.eval x = y) (hx : Rd w 17 y 1 news) (h1 : ∀ u ∈ news, u.oneCell' = true)
    (hn : (n + 1) * 40 ≤ 140737488355328) (hbase : base ≤ w.heap.size)
    (h : ∀ v' w', Own w' base 49 17 v' (n + 1) (xs ++ news) → w.grownBy w' (ownB v) → (ownB v' = ownB v ∨ ∃ g, ownB v' = some g ∧ w.heap.size ≤ g) → K (a.put o.dst v') w') : o.wp Try.prog a w K Q := by
  obtain ⟨i, hi, hz, hi2, hi3⟩ := info_parts infoI
  obtain ⟨v', w', hr, h2, h3, h4, _, h6⟩ := append_rd (P := Try.prog) w base 37 o.type 49 i _ 17 40 Try.underlying37 hi hz hi2 hi3 rfl (by decide) v n xs hown y 1 news hx h1 (by unfold maxLen; omega) hn hbase
  unfold Oper.wp execOp
  simp only [ho, resolve, invoke, builtin, Sem.run_bind, Sem.run_pure, Result.andThen_ok, List.map_toArray, List.map_cons, List.map_nil, hs, hxe, hr]
  exact h v' w' h2 h3 h4
theorem wp_bslice_item {o : Oper} {a : Act} {w : World} {K : Act → World → Prop} {Q : Exit → Act → World → Prop} (x : Operand) (ho : o.op = .buildSlice 37 1 #[(0, x)]) (X : List Value) (hX : X.length = 17) (hx : a.eval x = .agg X.toArray)
    (h : K (a.put o.dst (.slice (some ⟨w.heap.size, 0, none⟩) 1 1)) (w.alloc (.cells X.toArray 49))) : o.wp Try.prog a w K Q := by
  unfold Oper.wp execOp
  simp only [ho, List.map_toArray, List.map_cons, List.map_nil, hx, Sem.run_bind, run_bslice_item X hX, Result.andThen_ok, Sem.run_pure]
  exact h
theorem rd_item {w : World} {X : List Value} {t : TypeId} (h : X.length = 17) : Rd (w.alloc (.cells X.toArray t)) 17 (.slice (some ⟨w.heap.size, 0, none⟩) 1 1) 1 X := by
  have := rd_one (w := w) (X := X) (t := t)
  rw [h] at this
  exact this
theorem item_oneCell (g : List UInt8) (x : Option Addr) (m c : Nat) : ∀ u ∈ (g.map b8 ++ [Value.slice x m c]), u.oneCell' = true := by
  intro u hu
  rw [List.mem_append] at hu
  rcases hu with hu | hu
  · exact b8_oneCell g u hu
  · rw [List.mem_singleton.1 hu]; rfl

/-- Behind the store. -/
structure TwC (w : World) (n5 : Nat) (k : Int) (ov : Value) (ys : List LiV) (is : List ItV) (w' : World) : Prop where
  ex : ∃ (xa : Option Addr) (na ca : Nat) (zs : List ItV), RowAt w' n5 #[.int .u8 k, .slice xa na ca] ∧ na = zs.length ∧ zs.map ItV.it = is.map ItV.it ∧ OwnIts w' (n5 + 1) (.slice xa na ca) zs
  out : OwnLis w' w.heap.size ov ys
  bel : Below w.heap.size w w'
/-- Between the append and the store. -/
structure TwT (w : World) (n5 : Nat) (k : Int) (s0 : Value) (ov : Value) (ys : List LiV) (is : List ItV) (v : Value) (w' : World) : Prop where
  row : RowAt w' n5 #[.int .u8 k, s0]
  low : w.heap.size ≤ n5
  ex : ∃ (xa : Option Addr) (na ca : Nat) (zs : List ItV), v = .slice xa na ca ∧ na = zs.length ∧ zs.map ItV.it = is.map ItV.it ∧ OwnIts w' (n5 + 1) (.slice xa na ca) zs
  out : OwnLis w' w.heap.size ov ys
  lt : (∀ k, ownB ov = some k → k < n5) ∧ ∀ y ∈ ys, (∀ k, ownB y.v = some k → k < n5) ∧ ∀ z ∈ y.i, ∀ k, ownB z.v = some k → k < n5
  bel : Below w.heap.size w w'
theorem TwT.shape {w w' : World} {n5 : Nat} {k : Int} {s0 out v : Value} {ys : List LiV} {is : List ItV} (h : TwT w n5 k s0 out ys is v w') : ∃ x n c, v = .slice x n c := by
  obtain ⟨xa, na, ca, zs, e, _⟩ := h.ex
  exact ⟨xa, na, ca, e⟩
theorem TwT.cell {w w' : World} {n5 : Nat} {k : Int} {s0 out v : Value} {ys : List LiV} {is : List ItV} (h : TwT w n5 k s0 out ys is v w') : w'.cell? ⟨n5, 1, none⟩ = some s0 := h.row.cell 1 _ rfl
theorem TwT.free {w w' : World} {n5 : Nat} {k : Int} {s0 out v : Value} {ys : List LiV} {is : List ItV} (h : TwT w n5 k s0 out ys is v w') : ∀ o, w'.frozen? ⟨n5, o, none⟩ = false := h.row.free
theorem OwnLis.chg_lt {w w' : World} {base n5 : Nat} {v : Value} {xs : List LiV} (h : OwnLis w base v xs) (hl : (∀ k, ownB v = some k → k < n5) ∧ ∀ y ∈ xs, (∀ k, ownB y.v = some k → k < n5) ∧ ∀ z ∈ y.i, ∀ k, ownB z.v = some k → k < n5) {L : List Nat} (hL : ∀ x ∈ L, n5 ≤ x) (hc : Chg L w w') : OwnLis w' base v xs :=
  ⟨h.row.chg hc (fun x hx e => by have := hl.1 x e; have := hL x hx; omega), h.kind, fun y hy => (h.its y hy).chg hc (fun x hx e => by have := (hl.2 y hy).1 x e; have := hL x hx; omega), h.len,
   fun y hy z hz => (h.byt y hy z hz).chg hc (fun x hx e => by have := (hl.2 y hy).2 z hz x e; have := hL x hx; omega), h.part⟩
theorem TwT.store {w w' : World} {n5 : Nat} {k : Int} {s0 out : Value} {xb : Option Addr} {nb cb : Nat} {ys : List LiV} {is : List ItV} (h : TwT w n5 k s0 out ys is (.slice xb nb cb) w') : TwC w n5 k out ys is (w'.setCell ⟨n5, 1, none⟩ (.slice xb nb cb)) := by
  obtain ⟨xa, na, ca, zs, e, h1, h2, h3⟩ := h.ex
  cases e
  have hc : Chg [n5] w' (w'.setCell ⟨n5, 1, none⟩ (.slice xb nb cb)) := (Chg.refl [n5] w').setCell (by simp) _
  exact ⟨⟨xb, nb, cb, zs, h.row.set (i := 1) (u := .slice xb nb cb) (by simp), h1, h2, h3.chg hc (fun x hx => by simp at hx; omega)⟩,
    h.out.chg_lt h.lt (by simp) hc, h.bel.setCell (p := ⟨n5, 1, none⟩) h.low _⟩
theorem tw_append {w wi w' w2 : World} {n5 i : Nat} {k : Int} {s0 ov v' : Value} {ys : List LiV} {zs is : List ItV} {y : ItV} {x1 : Option Addr} {m1 c1 : Nat} (hr : RowAt wi n5 #[.int .u8 k, s0]) (hit : OwnIts wi (n5 + 1) s0 zs) (hzl : i = zs.length) (hze : zs.map ItV.it = (is.take i).map ItV.it)
    (hol : OwnLis wi w.heap.size ov ys) (hlt : (∀ k, ownB ov = some k → k < n5) ∧ ∀ y ∈ ys, (∀ k, ownB y.v = some k → k < n5) ∧ ∀ z ∈ y.i, ∀ k, ownB z.v = some k → k < n5) (hlo : w.heap.size ≤ n5) (hb : Below w.heap.size w wi) (hs : Below wi.heap.size wi w')
    (ho : OwnB w' wi.heap.size (.slice x1 m1 c1) y.d) (ho2 : Own w2 (n5 + 1) 49 17 v' (i + 1) (itsC zs ++ (y.o.map b8 ++ [Value.slice x1 m1 c1]))) (hg2 : w'.grownBy w2 (ownB s0)) (hye : is[i]? = some y) (hyl : y.o.length = 16) :
    TwT w n5 k s0 ov ys (is.take (i + 1)) v' w2 := by
  have hr5 := hr.lt
  have hl0 : ∀ q, ownB s0 = some q → n5 + 1 ≤ q := fun q hq => (Own.lt hit.row q hq).1
  have hw' := hs.size
  have hbel : Below w.heap.size w w' := hb.trans (hs.mono (by have := hb.size; omega))
  obtain ⟨xa, ca, rfl, _, _⟩ := Own.shape ho2
  subst hzl
  refine ⟨(hr.below hs).grown hg2 (fun e => by have := hl0 n5 e; omega), hlo, ⟨xa, zs.length + 1, ca, zs ++ [⟨y.o, y.d, .slice x1 m1 c1⟩], rfl, by simp, ?_, ?_⟩, ?_, hlt, hbel.grown hg2 hbel.size (fun q hq => by have := hl0 q hq; omega)⟩
  · rw [take_at hye, List.map_append, List.map_append, hze]
    rfl
  · exact OwnIts.snoc (x := ⟨y.o, y.d, .slice x1 m1 c1⟩) (hit.below hs) ho2 hg2 hyl (OwnB.mono ho (by omega))
  · have hol' := hol.below hs
    have hk : ∀ {e s n : Nat} {u : Value} {cs : List Value}, Own w' w.heap.size e s u n cs → (∀ k, ownB u = some k → k < n5) → Own w2 w.heap.size e s u n cs := fun hu hl => Own.kept hu hg2 (fun q hq e => by have := hl q hq; have := hl0 q e; omega)
    exact ⟨hk hol'.row hlt.1, hol'.kind, fun z hz => hk (hol'.its z hz) (hlt.2 z hz).1, hol'.len, fun z hz y hy => hk (hol'.byt z hz y hy) ((hlt.2 z hz).2 y hy), hol'.part⟩
end Go.Proofs.Ytilanncobbdlfaa
