/-
  A law's situation: what it reads, and what it has made, in one statement that each call hands on. No condition.
-/
import Derived.Test.YtemojckmnlgkdaaApart
namespace Go.Proofs.Ytemojckmnlgkdaa
open Go Go.RowKit

/-- In world w, which came out of w0: the values rs read these bytes; the values vs are owned, share no row, and hold the bytes ls. -/
structure Sit (w0 w : World) (rs : List (Value × List UInt8)) (vs : List Value) (ls : List (List UInt8)) : Prop where
  bel : Below w0.heap.size w0 w
  rd : ∀ i, i < rs.length → Byt w (rs.getD i (.slice none 0 0, [])).1 (rs.getD i (.slice none 0 0, [])).2
  own : ∀ i, i < vs.length → OwnB w w0.heap.size (vs.getD i (.slice none 0 0)) (ls.getD i [])
  part : Parted vs

theorem Sit.start (w : World) (rs : List (Value × List UInt8)) (h : ∀ i, i < rs.length → Byt w (rs.getD i (.slice none 0 0, [])).1 (rs.getD i (.slice none 0 0, [])).2) : Sit w w rs [] [] :=
  ⟨Below.refl _ _, h, fun i hi => by simp at hi, fun i _ hi => by simp at hi⟩
theorem Sit.start0 (w : World) : Sit w w [] [] [] := Sit.start w [] fun i hi => by simp at hi
theorem Sit.start1 (w : World) (v : Value) (l : List UInt8) (h : Byt w v l) : Sit w w [(v, l)] [] [] := Sit.start w _ fun i hi => by
  obtain rfl : i = 0 := by simp at hi; omega
  exact h
theorem Sit.start2 (w : World) (v v2 : Value) (l l2 : List UInt8) (h : Byt w v l) (h2 : Byt w v2 l2) : Sit w w [(v, l), (v2, l2)] [] [] := Sit.start w _ fun i hi => by
  have : i = 0 ∨ i = 1 := by simp at hi; omega
  rcases this with rfl | rfl
  · exact h
  · exact h2
theorem Sit.start3 (w : World) (v v2 v3 : Value) (l l2 l3 : List UInt8) (h : Byt w v l) (h2 : Byt w v2 l2) (h3 : Byt w v3 l3) : Sit w w [(v, l), (v2, l2), (v3, l3)] [] [] := Sit.start w _ fun i hi => by
  have : i = 0 ∨ i = 1 ∨ i = 2 := by simp at hi; omega
  rcases this with rfl | rfl | rfl
  · exact h
  · exact h2
  · exact h3

section
variable {w0 w w' : World} {rs : List (Value × List UInt8)} {vs : List Value} {ls : List (List UInt8)}

theorem Sit.call (S : Sit w0 w rs vs ls) (hb : Below w.heap.size w w') : Sit w0 w' rs vs ls :=
  ⟨S.bel.trans (hb.mono S.bel.size), fun i hi => (S.rd i hi).below hb, fun i hi => (S.own i hi).below hb, S.part⟩
theorem Sit.alloc (S : Sit w0 w rs vs ls) (o : Obj) : Sit w0 (w.alloc o) rs vs ls := S.call ((Below.refl _ _).alloc (Nat.le_refl _) o)
theorem Sit.drewN (S : Sit w0 w rs vs ls) (n : Nat) : Sit w0 (w.drewN n) rs vs ls := S.call (below_drewN (Below.refl _ _) n)
theorem Sit.drew (S : Sit w0 w rs vs ls) : Sit w0 w.drew rs vs ls := S.call (Below.refl _ _).drew

/-- One that is new beside what was there. -/
theorem Sit.push (S : Sit w0 w rs vs ls) {v : Value} {l : List UInt8} (hv : OwnB w w0.heap.size v l) (hn : ∀ i, i < vs.length → ∀ k, ownB (vs.getD i (.slice none 0 0)) = some k → ownB v ≠ some k) : Sit w0 w rs (v :: vs) (l :: ls) := by
  refine ⟨S.bel, S.rd, fun i hi => ?_, fun i j hi hj hij k hk => ?_⟩
  · cases i with
    | zero => exact hv
    | succ i => exact S.own i (by simpa using hi)
  · cases i with
    | zero =>
      cases j with
      | zero => exact absurd rfl hij
      | succ j => exact fun e => hn j (by simpa using hj) k e hk
    | succ i =>
      cases j with
      | zero => exact hn i (by simpa using hi) k hk
      | succ j => exact S.part i j (by simpa using hi) (by simpa using hj) (by omega) k hk

/-- A call that makes a slice of bytes. -/
theorem Sit.born (S : Sit w0 w rs vs ls) (hb : Below w.heap.size w w') {v : Value} {l : List UInt8} (hv : OwnB w' w.heap.size v l) : Sit w0 w' rs (v :: vs) (l :: ls) :=
  (S.call hb).push (hv.mono S.bel.size) fun i hi k hk e => by
    have h1 := (Own.lt (S.own i hi) k hk).2
    have h2 := (Own.lt hv k e).1
    omega

/-- A chosen few of them. -/
theorem Sit.parted (S : Sit w0 w rs vs ls) (idx : List Nat) (hnd : idx.Nodup) (hlt : ∀ i ∈ idx, i < vs.length) : Parted (idx.map fun i => vs.getD i (.slice none 0 0)) := by
  intro i j hi hj hij k hk
  simp only [List.length_map] at hi hj
  have gi : ∀ n (h : n < idx.length), (idx.map fun i => vs.getD i (Value.slice none 0 0)).getD n (.slice none 0 0) = vs.getD idx[n] (.slice none 0 0) := by
    intro n h
    simp [List.getD, h]
  rw [gi i hi] at hk
  rw [gi j hj]
  refine S.part _ _ (hlt _ (List.getElem_mem _)) (hlt _ (List.getElem_mem _)) (fun e => ?_) k hk
  have hp := List.pairwise_iff_getElem.1 hnd
  rcases Nat.lt_or_gt_of_ne hij with h | h
  · exact hp i j hi hj h e
  · exact hp j i hj hi h e.symm

end

section
variable {w0 w : World} {rs : List (Value × List UInt8)} {v0 v1 v2 v3 v4 : Value} {l0 l1 l2 l3 l4 : List UInt8} {vs : List Value} {ls : List (List UInt8)}
theorem Sit.o0 (S : Sit w0 w rs (v0 :: vs) (l0 :: ls)) : OwnB w w0.heap.size v0 l0 := S.own 0 (by simp)
theorem Sit.o1 (S : Sit w0 w rs (v0 :: v1 :: vs) (l0 :: l1 :: ls)) : OwnB w w0.heap.size v1 l1 := S.own 1 (by simp)
theorem Sit.o2 (S : Sit w0 w rs (v0 :: v1 :: v2 :: vs) (l0 :: l1 :: l2 :: ls)) : OwnB w w0.heap.size v2 l2 := S.own 2 (by simp)
theorem Sit.o3 (S : Sit w0 w rs (v0 :: v1 :: v2 :: v3 :: vs) (l0 :: l1 :: l2 :: l3 :: ls)) : OwnB w w0.heap.size v3 l3 := S.own 3 (by simp)
theorem Sit.o5 {v5 : Value} {l5 : List UInt8} (S : Sit w0 w rs (v0 :: v1 :: v2 :: v3 :: v4 :: v5 :: vs) (l0 :: l1 :: l2 :: l3 :: l4 :: l5 :: ls)) : OwnB w w0.heap.size v5 l5 := S.own 5 (by simp)
theorem Sit.o4 (S : Sit w0 w rs (v0 :: v1 :: v2 :: v3 :: v4 :: vs) (l0 :: l1 :: l2 :: l3 :: l4 :: ls)) : OwnB w w0.heap.size v4 l4 := S.own 4 (by simp)
end
section
variable {w0 w : World} {rs : List (Value × List UInt8)} {v0 v1 v2 v3 v4 : Value} {l0 l1 l2 l3 l4 : List UInt8} {vs : List Value} {ls : List (List UInt8)}
theorem Sit.r0 (S : Sit w0 w ((v0, l0) :: rs) vs ls) : Byt w v0 l0 := S.rd 0 (by simp)
theorem Sit.r1 (S : Sit w0 w ((v0, l0) :: (v1, l1) :: rs) vs ls) : Byt w v1 l1 := S.rd 1 (by simp)
theorem Sit.r2 (S : Sit w0 w ((v0, l0) :: (v1, l1) :: (v2, l2) :: rs) vs ls) : Byt w v2 l2 := S.rd 2 (by simp)
theorem Sit.r3 (S : Sit w0 w ((v0, l0) :: (v1, l1) :: (v2, l2) :: (v3, l3) :: rs) vs ls) : Byt w v3 l3 := S.rd 3 (by simp)
end

theorem len_all (ls : List (List UInt8)) (h : ∀ x ∈ ls, x.length ≤ 1000000000000) (j : Nat) : (ls.getD j []).length ≤ 1000000000000 := by
  by_cases hj : j < ls.length
  · have e : ls.getD j [] = ls[j] := by simp [List.getD, hj]
    rw [e]
    exact h _ (List.getElem_mem _)
  · have e : ls.getD j [] = [] := by simp [List.getD, hj]
    rw [e]
    simp

theorem own_front {w : World} {base g n m cap : Nat} {l r : List UInt8} (h : OwnB w base (.slice (some ⟨g, 0, none⟩) n cap) (l ++ r)) (hm : m = l.length) : OwnB w base (.slice (some ⟨g, 0, none⟩) m cap) l := by
  subst hm
  have e := h.len
  unfold OwnB at h
  rw [← e] at h
  have := Own.take h l.length (by rw [e]; simp)
  rw [List.map_append, Nat.mul_one, List.take_left' (by simp)] at this
  exact this

end Go.Proofs.Ytemojckmnlgkdaa
