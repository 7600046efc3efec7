/-
  Lists of signatures in memory: read (Its, Lis), and made by the call itself (OwnLis).
-/
import Derived.Test.YtilanncobbdlfaaSgPlain
import Derived.Test.YtilanncobbdlfaaRow
import Derived.Test.YtilanncobbdlfaaGidEq
import Derived.Deep.MidRow
namespace Go.Proofs.Ytilanncobbdlfaa
open Go Go.RowKit
set_option linter.unusedVariables false

/-- Chunks of one size, one behind the other. -/
theorem chunk_at {α β : Type} (f : α → List β) (s : Nat) : ∀ (xs : List α), (∀ x ∈ xs, (f x).length = s) → ∀ (i r : Nat) (x : α), xs[i]? = some x → r < s → (xs.flatMap f)[i * s + r]? = (f x)[r]?
  | [], _, i, r, x, hx, _ => by simp at hx
  | y :: xs, h, 0, r, x, hx, hr => by
    simp only [List.getElem?_cons_zero, Option.some.injEq] at hx
    subst hx
    rw [List.flatMap_cons, Nat.zero_mul, Nat.zero_add, List.getElem?_append_left (by rw [h y (by simp)]; exact hr)]
  | y :: xs, h, i + 1, r, x, hx, hr => by
    simp only [List.getElem?_cons_succ] at hx
    rw [List.flatMap_cons, List.getElem?_append_right (by rw [h y (by simp), Nat.add_mul]; omega), h y (by simp), show (i + 1) * s + r - s = i * s + r by rw [Nat.add_mul]; omega]
    exact chunk_at f s xs (fun z hz => h z (by simp [hz])) i r x hx hr
theorem chunk_length {α β : Type} (f : α → List β) (s : Nat) : ∀ (xs : List α), (∀ x ∈ xs, (f x).length = s) → (xs.flatMap f).length = xs.length * s
  | [], _ => by simp
  | y :: xs, h => by rw [List.flatMap_cons, List.length_append, h y (by simp), chunk_length f s xs (fun z hz => h z (by simp [hz])), List.length_cons, Nat.add_mul]; omega

/-- An item in memory: its owner, its data, its data's slice. -/
structure ItV where
  o : List UInt8
  d : List UInt8
  v : Value
def ItV.it (x : ItV) : It := ⟨x.o, x.d⟩
/-- Its cells. -/
def itC (x : ItV) : List Value := x.o.map b8 ++ [x.v]
def itsC (xs : List ItV) : List Value := xs.flatMap itC
/-- A list in memory: its kind, its items, its items' slice. -/
structure LiV where
  k : Int
  i : List ItV
  v : Value
def LiV.li (x : LiV) : Li := ⟨x.k, x.i.map ItV.it⟩
def liC (x : LiV) : List Value := [.int .u8 x.k, x.v]
def lisC (xs : List LiV) : List Value := xs.flatMap liC

theorem itC_length (x : ItV) (h : x.o.length = 16) : (itC x).length = 17 := by unfold itC; simp [h]
theorem lisC_length (xs : List LiV) : (lisC xs).length = xs.length * 2 := chunk_length liC 2 xs (fun _ _ => rfl)
theorem lisC_at {xs : List LiV} {i : Nat} {x : LiV} (h : xs[i]? = some x) : (lisC xs)[i * 2]? = some (.int .u8 x.k) ∧ (lisC xs)[i * 2 + 1]? = some x.v := by
  have h0 := chunk_at liC 2 xs (fun _ _ => rfl) i 0 x h (by omega)
  have h1 := chunk_at liC 2 xs (fun _ _ => rfl) i 1 x h (by omega)
  rw [Nat.add_zero] at h0
  exact ⟨h0, h1⟩

/-- The slice value v reads these items. -/
structure Its (w : World) (v : Value) (xs : List ItV) : Prop where
  row : Rd w 17 v xs.length (itsC xs)
  len : ∀ x ∈ xs, x.o.length = 16
  byt : ∀ x ∈ xs, Byt w x.v x.d
/-- The slice value v reads these lists. -/
structure Lis (w : World) (v : Value) (xs : List LiV) : Prop where
  row : Rd w 2 v xs.length (lisC xs)
  kind : ∀ x ∈ xs, 0 ≤ x.k ∧ x.k ≤ 255
  its : ∀ x ∈ xs, Its w x.v x.i

theorem Its.below {w w' : World} {v : Value} {xs : List ItV} (h : Its w v xs) (hb : Below w.heap.size w w') : Its w' v xs := ⟨h.row.below hb (Nat.le_refl _), h.len, fun x hx => (h.byt x hx).below hb⟩
theorem Lis.below {w w' : World} {v : Value} {xs : List LiV} (h : Lis w v xs) (hb : Below w.heap.size w w') : Lis w' v xs := ⟨h.row.below hb (Nat.le_refl _), h.kind, fun x hx => (h.its x hx).below hb⟩
theorem Its.nil (w : World) : Its w (.slice none 0 0) [] := ⟨Rd.nil w 17, fun x hx => by simp at hx, fun x hx => by simp at hx⟩
theorem Lis.nil (w : World) : Lis w (.slice none 0 0) [] := ⟨Rd.nil w 2, fun x hx => by simp at hx, fun x hx => by simp at hx⟩

theorem itsC_at {w : World} {v : Value} {xs : List ItV} (h : Its w v xs) {j r : Nat} {x : ItV} (hx : xs[j]? = some x) (hr : r < 17) : (itsC xs)[j * 17 + r]? = (itC x)[r]? :=
  chunk_at itC 17 xs (fun y hy => itC_length y (h.len y hy)) j r x hx hr

/-- OPENED: the value's shape. -/
theorem Lis.open {w : World} {v : Value} {xs : List LiV} (h : Lis w v xs) : ∃ a cap, v = .slice a xs.length cap ∧ xs.length ≤ cap ∧ cap ≤ 9223372036854775807 := by
  obtain ⟨a, cap, e, _, h1, h2, _⟩ := h.row
  unfold maxLen at h2
  exact ⟨a, cap, e, h1, by omega⟩
theorem Its.open {w : World} {v : Value} {xs : List ItV} (h : Its w v xs) : ∃ a cap, v = .slice a xs.length cap ∧ xs.length ≤ cap ∧ cap ≤ 9223372036854775807 := by
  obtain ⟨a, cap, e, _, h1, h2, _⟩ := h.row
  unfold maxLen at h2
  exact ⟨a, cap, e, h1, by omega⟩
/-- The i-th list's cells. -/
theorem Lis.at {w : World} {a : Option Addr} {n cap : Nat} {xs : List LiV} (h : Lis w (.slice a n cap) xs) {i : Nat} {x : LiV} (hx : xs[i]? = some x) :
    ∃ b off, a = some ⟨b, off, none⟩ ∧ w.cell? ⟨b, off + i * 2, none⟩ = some (.int .u8 x.k) ∧ w.cell? ⟨b, off + i * 2 + 1, none⟩ = some x.v := by
  obtain ⟨a', cap', e, _, _, _, hc⟩ := h.row
  simp only [Value.slice.injEq] at e
  obtain ⟨rfl, _, _⟩ := e
  obtain ⟨h0, h1⟩ := lisC_at hx
  obtain ⟨b, off, e0, c0⟩ := hc _ _ h0
  obtain ⟨b', off', e1, c1⟩ := hc _ _ h1
  rw [e0] at e1
  cases e1
  exact ⟨b, off, e0, c0, by rw [Nat.add_assoc]; exact c1⟩
/-- The j-th item's cells. -/
theorem Its.at {w : World} {a : Option Addr} {n cap : Nat} {xs : List ItV} (h : Its w (.slice a n cap) xs) {j : Nat} {x : ItV} (hx : xs[j]? = some x) :
    ∃ b off, a = some ⟨b, off, none⟩ ∧ w.rangeAt b (off + j * 17) (itC x) := by
  obtain ⟨a', cap', e, _, _, _, hc⟩ := h.row
  simp only [Value.slice.injEq] at e
  obtain ⟨rfl, _, _⟩ := e
  have hl := itC_length x (h.len x (List.mem_of_getElem? hx))
  have h0 := itsC_at h hx (r := 0) (by omega)
  obtain ⟨u, hu⟩ : ∃ u, (itC x)[0]? = some u := ⟨(itC x)[0], by simp⟩
  rw [Nat.add_zero, hu] at h0
  obtain ⟨b, off, e0, _⟩ := hc _ _ h0
  refine ⟨b, off, e0, fun r v hr => ?_⟩
  have hlt : r < 17 := by have := (List.getElem?_eq_some_iff.1 hr).1; omega
  have h1 := itsC_at h hx hlt
  rw [hr] at h1
  obtain ⟨b', off', e1, c1⟩ := hc _ _ h1
  rw [e0] at e1
  cases e1
  rw [Nat.add_assoc]
  exact c1

/-- Lists that the call itself has made. -/
structure OwnLis (w : World) (base : Nat) (v : Value) (xs : List LiV) : Prop where
  row : Own w base 39 2 v xs.length (lisC xs)
  kind : ∀ x ∈ xs, 0 ≤ x.k ∧ x.k ≤ 255
  its : ∀ x ∈ xs, Own w base 49 17 x.v x.i.length (itsC x.i)
  len : ∀ x ∈ xs, ∀ y ∈ x.i, y.o.length = 16
  byt : ∀ x ∈ xs, ∀ y ∈ x.i, OwnB w base y.v y.d
  part : ∀ (i j : Nat) (x y : LiV), xs[i]? = some x → xs[j]? = some y → i ≠ j → ∀ k, ownB x.v = some k → ownB y.v ≠ some k

theorem OwnLis.lis {w : World} {base : Nat} {v : Value} {xs : List LiV} (h : OwnLis w base v xs) : Lis w v xs :=
  ⟨h.row.rd, h.kind, fun x hx => ⟨(h.its x hx).rd, h.len x hx, fun y hy => (h.byt x hx y hy).byt⟩⟩
theorem OwnLis.below {w w' : World} {base : Nat} {v : Value} {xs : List LiV} (h : OwnLis w base v xs) (hb : Below w.heap.size w w') : OwnLis w' base v xs :=
  ⟨h.row.below hb (Nat.le_refl _), h.kind, fun x hx => (h.its x hx).below hb (Nat.le_refl _), h.len, fun x hx y hy => (h.byt x hx y hy).below hb, h.part⟩
theorem OwnLis.mono {w : World} {base base' : Nat} {v : Value} {xs : List LiV} (h : OwnLis w base v xs) (hb : base' ≤ base) : OwnLis w base' v xs :=
  ⟨h.row.mono hb, h.kind, fun x hx => (h.its x hx).mono hb, h.len, fun x hx y hy => (h.byt x hx y hy).mono hb, h.part⟩
theorem OwnLis.chg {w w' : World} {base : Nat} {v : Value} {xs : List LiV} {L : List Nat} (h : OwnLis w base v xs) (hc : Chg L w w') (hL : ∀ x ∈ L, x < base) : OwnLis w' base v xs := by
  have hn : ∀ {u : Value} {e size n : Nat} {cs : List Value}, Own w base e size u n cs → ∀ x, x ∈ L → ownB u ≠ some x := fun hu x hx e => by
    have := (Own.lt hu x e).1
    have := hL x hx
    omega
  exact ⟨h.row.chg hc (hn h.row), h.kind, fun x hx => (h.its x hx).chg hc (hn (h.its x hx)), h.len, fun x hx y hy => (h.byt x hx y hy).chg' hc hL, h.part⟩
theorem OwnLis.empty (w : World) (base : Nat) (a : Option Addr) : OwnLis w base (.slice a 0 0) [] :=
  ⟨Own.empty w base _ 2 a, fun x hx => by simp at hx, fun x hx => by simp at hx, fun x hx => by simp at hx, fun x hx => by simp at hx, fun i j x y hx => by simp at hx⟩
/-- Items that the call itself has made. -/
structure OwnIts (w : World) (base : Nat) (v : Value) (xs : List ItV) : Prop where
  row : Own w base 49 17 v xs.length (itsC xs)
  len : ∀ x ∈ xs, x.o.length = 16
  byt : ∀ x ∈ xs, OwnB w base x.v x.d
theorem OwnIts.its {w : World} {base : Nat} {v : Value} {xs : List ItV} (h : OwnIts w base v xs) : Its w v xs := ⟨h.row.rd, h.len, fun x hx => (h.byt x hx).byt⟩
theorem OwnIts.below {w w' : World} {base : Nat} {v : Value} {xs : List ItV} (h : OwnIts w base v xs) (hb : Below w.heap.size w w') : OwnIts w' base v xs := ⟨h.row.below hb (Nat.le_refl _), h.len, fun x hx => (h.byt x hx).below hb⟩
theorem OwnIts.mono {w : World} {base base' : Nat} {v : Value} {xs : List ItV} (h : OwnIts w base v xs) (hb : base' ≤ base) : OwnIts w base' v xs := ⟨h.row.mono hb, h.len, fun x hx => (h.byt x hx).mono hb⟩
theorem OwnIts.empty (w : World) (base : Nat) (a : Option Addr) : OwnIts w base (.slice a 0 0) [] := ⟨Own.empty w base _ 17 a, fun x hx => by simp at hx, fun x hx => by simp at hx⟩
theorem OwnLis.own_its {w : World} {base : Nat} {v : Value} {xs : List LiV} (h : OwnLis w base v xs) {x : LiV} (hx : x ∈ xs) : OwnIts w base x.v x.i := ⟨h.its x hx, h.len x hx, h.byt x hx⟩
end Go.Proofs.Ytilanncobbdlfaa
