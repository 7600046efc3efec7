/-
  The contract of stamp's Less.
-/
import Derived.Test.YtjjggnipicpjkaaStamp4
namespace Go.Proofs.Ytjjggnipicpjkaa
open Go Go.RowKit

theorem U16s.of6 {w : World} {b cap : Nat} {z0 z1 z2 z3 z4 z5 : Int} (h0 : w.cell? ⟨b, 0, none⟩ = some (.int .u16 z0)) (h1 : w.cell? ⟨b, 1, none⟩ = some (.int .u16 z1)) (h2 : w.cell? ⟨b, 2, none⟩ = some (.int .u16 z2))
    (h3 : w.cell? ⟨b, 3, none⟩ = some (.int .u16 z3)) (h4 : w.cell? ⟨b, 4, none⟩ = some (.int .u16 z4)) (h5 : w.cell? ⟨b, 5, none⟩ = some (.int .u16 z5)) : U16s w (.slice (some ⟨b, 0, none⟩) 6 cap) [z0, z1, z2, z3, z4, z5] := by
  refine ⟨b, cap, rfl, by simp, fun i hi => ?_⟩
  have : i = 0 ∨ i = 1 ∨ i = 2 ∨ i = 3 ∨ i = 4 ∨ i = 5 := by simp at hi; omega
  rcases this with rfl | rfl | rfl | rfl | rfl | rfl <;> assumption

/-- Six cells are there. -/
def Six (W : World) (b : Nat) : Prop := ∀ i, i < 6 → ∃ u, W.cell? ⟨b, i, none⟩ = some u
theorem Six.new {W : World} {b : Nat} {c0 c1 c2 c3 c4 c5 : Value} {e : Nat} (h : b = W.heap.size) : Six (W.alloc (.cells #[c0, c1, c2, c3, c4, c5] e)) b := by
  intro i hi
  subst h
  rw [cell_of_row _ W.heap.size i _ _ (0, 0) (heap_alloc_new W _)]
  have : i = 0 ∨ i = 1 ∨ i = 2 ∨ i = 3 ∨ i = 4 ∨ i = 5 := by omega
  rcases this with rfl | rfl | rfl | rfl | rfl | rfl <;> exact ⟨_, rfl⟩
theorem Six.below {W W' : World} {b : Nat} (hb : Below W.heap.size W W') (h : Six W b) : Six W' b := fun i hi => by
  obtain ⟨u, hu⟩ := h i hi
  exact ⟨u, (hb.cell (p := ⟨b, i, none⟩) (lt_of_cell hu)).trans hu⟩
theorem Six.alloc {W : World} {b : Nat} {o : Obj} (h : Six W b) : Six (W.alloc o) b := h.below ((Below.refl _ _).alloc (Nat.le_refl _) o)
theorem Six.drew {W : World} {b : Nat} (h : Six W b) : Six W.drew b := h
theorem Six.set {W : World} {b b' k : Nat} {v : Value} (hne : b ≠ b') (h : Six W b) : Six (W.setCell ⟨b', k, none⟩ v) b := fun i hi => by
  obtain ⟨u, hu⟩ := h i hi
  exact ⟨u, (World.cell?_setCell_far W ⟨b', k, none⟩ ⟨b, i, none⟩ v (fun e => hne e.symm)).trans hu⟩

theorem U16s.new {W : World} {b e cap : Nat} {z0 z1 z2 z3 z4 z5 : Int} (h : b = W.heap.size) : U16s (W.alloc (.cells #[.int .u16 z0, .int .u16 z1, .int .u16 z2, .int .u16 z3, .int .u16 z4, .int .u16 z5] e)) (.slice (some ⟨b, 0, none⟩) 6 cap) [z0, z1, z2, z3, z4, z5] := by
  subst h
  refine ⟨_, cap, rfl, by simp, fun i hi => ?_⟩
  rw [cell_of_row _ W.heap.size i _ _ (0, 0) (heap_alloc_new W _)]
  have : i = 0 ∨ i = 1 ∨ i = 2 ∨ i = 3 ∨ i = 4 ∨ i = 5 := by simp at hi; omega
  rcases this with rfl | rfl | rfl | rfl | rfl | rfl <;> rfl
theorem U16s.below {W W' : World} {v : Value} {zs : List Int} (hb : Below W.heap.size W W') (h : U16s W v zs) : U16s W' v zs := by
  obtain ⟨b, cap, h1, h2, h3⟩ := h
  exact ⟨b, cap, h1, h2, fun i hi => (hb.cell (p := ⟨b, i, none⟩) (lt_of_cell (h3 i hi))).trans (h3 i hi)⟩
theorem U16s.alloc {W : World} {v : Value} {zs : List Int} {o : Obj} (h : U16s W v zs) : U16s (W.alloc o) v zs := h.below ((Below.refl _ _).alloc (Nat.le_refl _) o)
theorem U16s.drew {W : World} {v : Value} {zs : List Int} (h : U16s W v zs) : U16s W.drew v zs := h
theorem U16s.drewN {W : World} {v : Value} {zs : List Int} {n : Nat} (h : U16s W v zs) : U16s (W.drewN n) v zs := h.below (below_drewN (Below.refl _ _) n)
theorem U16s.set {W : World} {b b' k n cap : Nat} {v : Value} {zs : List Int} (hne : b ≠ b') (h : U16s W (.slice (some ⟨b, 0, none⟩) n cap) zs) : U16s (W.setCell ⟨b', k, none⟩ v) (.slice (some ⟨b, 0, none⟩) n cap) zs := by
  obtain ⟨b2, cap2, h1, h2, h3⟩ := h
  simp only [Value.slice.injEq, Option.some.injEq, Addr.mk.injEq] at h1
  obtain ⟨⟨rfl, _⟩, rfl, rfl⟩ := h1
  exact ⟨b, cap, rfl, h2, fun i hi => (World.cell?_setCell_far W ⟨b', k, none⟩ ⟨b, i, none⟩ v (fun e => hne e.symm)).trans (h3 i hi)⟩
theorem U16s.six {W : World} {b cap : Nat} {z0 z1 z2 z3 z4 z5 : Int} (h : Six W b) :
    U16s ((((((W.setCell ⟨b, 0, none⟩ (.int .u16 z0)).setCell ⟨b, 1, none⟩ (.int .u16 z1)).setCell ⟨b, 2, none⟩ (.int .u16 z2)).setCell ⟨b, 3, none⟩ (.int .u16 z3)).setCell ⟨b, 4, none⟩ (.int .u16 z4)).setCell ⟨b, 5, none⟩ (.int .u16 z5)) (.slice (some ⟨b, 0, none⟩) 6 cap) [z0, z1, z2, z3, z4, z5] := by
  obtain ⟨u0, h0⟩ := h 0 (by decide)
  obtain ⟨u1, h1⟩ := h 1 (by decide)
  obtain ⟨u2, h2⟩ := h 2 (by decide)
  obtain ⟨u3, h3⟩ := h 3 (by decide)
  obtain ⟨u4, h4⟩ := h 4 (by decide)
  obtain ⟨u5, h5⟩ := h 5 (by decide)
  apply U16s.of6 <;> simp [go_sem, *]

theorem parts_any (y mo d h mi s : Int) (w : World) (ht : Tm.Fit ⟨y, mo, d, h, mi, s⟩) :
    Calls Try.prog 36 #[.agg #[.int .u16 y, .int .u8 mo, .int .u8 d, .int .u8 h, .int .u8 mi, .int .u8 s]] w fun e w' => e = .returned (.agg #[.int .u16 y, .int .u16 mo, .int .u16 d, .int .u16 h, .int .u16 mi, .int .u16 s]) ∧ Below w.heap.size w w' := parts_calls ⟨y, mo, d, h, mi, s⟩ w ht

set_option maxRecDepth 100000 in
set_option maxHeartbeats 8000000 in
theorem less_calls (t u : Tm) (w : World) (ht : t.Fit) (hu : u.Fit) :
    Calls Try.prog 22 #[tmV t, tmV u] w fun e w' => e = .returned (.bool (lessB t u)) ∧ Below w.heap.size w w' := by
  have HR := Lib.hid (cmpL_ptL t u ht hu)
  obtain ⟨y, mo, d, h, mi, s⟩ := t
  obtain ⟨y2, mo2, d2, h2, mi2, s2⟩ := u
  unfold tmV
  unfold ptL at HR
  simp only at HR ⊢
  obtain ⟨r, hr⟩ : ∃ r, Hid (r = cmpL [y, mo, d, h, mi, s] [y2, mo2, d2, h2, mi2, s2]) := ⟨_, Lib.hid rfl⟩
  rw [← hr.out] at HR
  have HC : Hid (∀ b1 b2 W, U16s W (.slice (some ⟨b1, 0, none⟩) 6 6) [y, mo, d, h, mi, s] → U16s W (.slice (some ⟨b2, 0, none⟩) 6 6) [y2, mo2, d2, h2, mi2, s2] → Calls Try.prog 37 #[.slice (some ⟨b1, 0, none⟩) 6 6, .slice (some ⟨b2, 0, none⟩) 6 6] W fun e w' => e = .returned (.int .i64 r) ∧ w' = W) := Lib.hid (fun b1 b2 W h1 h2 => by
    rw [hr.out]; exact compare_calls _ _ _ _ W h1 h2 rfl)
  go_enter Try.func22, Try.ntmps22
  go_wp2
  have tok1 : True := trivial
  have hm1 : ¬ (w.heap.size = w.heap.size + 1 + 1) := by omega
  have hm2 : ¬ (w.heap.size + 1 + 1 = w.heap.size) := by omega
  have hm3 : ¬ (w.heap.size = w.heap.size + 2) := by omega
  have hm4 : ¬ (w.heap.size + 2 = w.heap.size) := by omega
  have hm5 : ¬ (w.heap.size = w.heap.size + 1 + 1 + 1) := by omega
  have hm6 : ¬ (w.heap.size + 1 + 1 + 1 = w.heap.size) := by omega
  have hm7 : ¬ (w.heap.size + 1 = w.heap.size + 1 + 1 + 1) := by omega
  have hm8 : ¬ (w.heap.size + 1 + 1 + 1 = w.heap.size + 1) := by omega
  go_region_held3 (fun w' => w'.cell? ⟨w.heap.size, 0, none⟩ = some (.int .u16 y) ∧ w'.cell? ⟨w.heap.size, 1, none⟩ = some (.int .u8 mo) ∧ w'.cell? ⟨w.heap.size, 2, none⟩ = some (.int .u8 d) ∧ w'.cell? ⟨w.heap.size, 3, none⟩ = some (.int .u8 h) ∧ w'.cell? ⟨w.heap.size, 4, none⟩ = some (.int .u8 mi) ∧ w'.cell? ⟨w.heap.size, 5, none⟩ = some (.int .u8 s) ∧ w'.cell? ⟨w.heap.size + 1, 0, none⟩ = some (.int .u16 y2) ∧ w'.cell? ⟨w.heap.size + 1, 1, none⟩ = some (.int .u8 mo2) ∧ w'.cell? ⟨w.heap.size + 1, 2, none⟩ = some (.int .u8 d2) ∧ w'.cell? ⟨w.heap.size + 1, 3, none⟩ = some (.int .u8 h2) ∧ w'.cell? ⟨w.heap.size + 1, 4, none⟩ = some (.int .u8 mi2) ∧ w'.cell? ⟨w.heap.size + 1, 5, none⟩ = some (.int .u8 s2) ∧ w.heap.size < w'.heap.size ∧ w.heap.size + 1 < w'.heap.size) (first | (refine ⟨?_, ?_, ?_, ?_, ?_, ?_, ?_, ?_, ?_, ?_, ?_, ?_, ?_, ?_⟩ <;> (first | omega | (simp <;> omega) | go_keep)) | omega | (simp <;> omega) | go_keep)
    (first | (go_at_call 36; have _t := tok1; refine (parts_any _ _ _ _ _ _ _ (by first | exact ht | exact hu)).mono ?_; clear tok1; rintro e w1 ⟨rfl, hb1⟩; have hy1 := hb1.size; (try simp at hy1); have hz1 : w.heap.size + 2 ≤ w1.heap.size := (by have hq := hb1.size; first | omega | (simp at hq; omega)); have hq1 : ∀ n, n < _ → n < w1.heap.size := (fun n h => Nat.lt_of_lt_of_le h hb1.size); obtain ⟨hgc1, hgf1⟩ := bcell hb1; (try have hk21 : w.heap.size + 2 < w1.heap.size := (by have hq := hb1.size; first | omega | (simp at hq; omega))); (try have hk31 : w.heap.size + 3 < w1.heap.size := (by have hq := hb1.size; first | omega | (simp at hq; omega))); have hn01 : ¬ (w.heap.size = w1.heap.size) := (by omega); have hn11 : ¬ (w1.heap.size = w.heap.size) := (by omega); have hn21 : ¬ (w.heap.size + 1 = w1.heap.size) := (by omega); have hn31 : ¬ (w1.heap.size = w.heap.size + 1) := (by omega); have hn41 : ¬ (w1.heap.size + 1 = w.heap.size) := (by omega); have hn51 : ¬ (w.heap.size = w1.heap.size + 1) := (by omega); have hcc1 : ∀ o, w1.cell? ⟨w.heap.size, o, none⟩ = _ := fun o => hb1.cell (p := ⟨w.heap.size, o, none⟩) (by first | omega | (simp <;> omega)); have hdd1 : ∀ o, w1.cell? ⟨w.heap.size + 1, o, none⟩ = _ := fun o => hb1.cell (p := ⟨w.heap.size + 1, o, none⟩) (by first | omega | (simp <;> omega))) | (go_at_call 36; refine (parts_any _ _ _ _ _ _ _ (by first | exact ht | exact hu)).mono ?_; rintro e w2 ⟨rfl, hb2⟩; have hy2 := hb2.size; (try simp at hy2); have hz2 : w.heap.size + 2 ≤ w2.heap.size := (by have hq := hb2.size; first | omega | (simp at hq; omega)); have hq2 : ∀ n, n < _ → n < w2.heap.size := (fun n h => Nat.lt_of_lt_of_le h hb2.size); obtain ⟨hgc2, hgf2⟩ := bcell hb2; (try have hk22 : w.heap.size + 2 < w2.heap.size := (by have hq := hb2.size; first | omega | (simp at hq; omega))); (try have hk32 : w.heap.size + 3 < w2.heap.size := (by have hq := hb2.size; first | omega | (simp at hq; omega))); have hn02 : ¬ (w.heap.size = w2.heap.size) := (by omega); have hn12 : ¬ (w2.heap.size = w.heap.size) := (by omega); have hn22 : ¬ (w.heap.size + 1 = w2.heap.size) := (by omega); have hn32 : ¬ (w2.heap.size = w.heap.size + 1) := (by omega); have hn42 : ¬ (w2.heap.size + 1 = w.heap.size) := (by omega); have hn52 : ¬ (w.heap.size = w2.heap.size + 1) := (by omega); have hcc2 : ∀ o, w2.cell? ⟨w.heap.size, o, none⟩ = _ := fun o => hb2.cell (p := ⟨w.heap.size, o, none⟩) (by first | omega | (simp <;> omega)); have hdd2 : ∀ o, w2.cell? ⟨w.heap.size + 1, o, none⟩ = _ := fun o => hb2.cell (p := ⟨w.heap.size + 1, o, none⟩) (by first | omega | (simp <;> omega))))
  all_goals
    go_wp2
    go_quiet ((go_at_call 37; exact Calls.quiet_of_same (HC.out _ _ _ (by repeat' (first
        | with_reducible refine U16s.drewN ?_
        | with_reducible refine U16s.drew ?_
        | (with_reducible refine U16s.new ?_; first | rfl | omega | (simp; done) | (simp; omega))
        | with_reducible refine U16s.alloc ?_
        | with_reducible refine U16s.six ?_
        | (with_reducible refine U16s.set ?_ ?_; focus (first | omega | (simp; done) | (simp; omega)))
        | (with_reducible refine Six.new ?_; first | rfl | omega | (simp; done) | (simp; omega))
        | with_reducible refine Six.drew ?_
        | with_reducible refine Six.alloc ?_
        | (with_reducible refine Six.set ?_ ?_; focus (first | omega | (simp; done) | (simp; omega)))
        | with_reducible refine Six.below hb2 ?_
        | with_reducible refine Six.below hb1 ?_)) (by repeat' (first
        | with_reducible refine U16s.drewN ?_
        | with_reducible refine U16s.drew ?_
        | (with_reducible refine U16s.new ?_; first | rfl | omega | (simp; done) | (simp; omega))
        | with_reducible refine U16s.alloc ?_
        | with_reducible refine U16s.six ?_
        | (with_reducible refine U16s.set ?_ ?_; focus (first | omega | (simp; done) | (simp; omega)))
        | (with_reducible refine Six.new ?_; first | rfl | omega | (simp; done) | (simp; omega))
        | with_reducible refine Six.drew ?_
        | with_reducible refine Six.alloc ?_
        | (with_reducible refine Six.set ?_ ?_; focus (first | omega | (simp; done) | (simp; omega)))
        | with_reducible refine Six.below hb2 ?_
        | with_reducible refine Six.below hb1 ?_)))))
    go_wp2
    go_ret
    refine ⟨ret_bool HR.out, ?_⟩
    repeat' (first
      | with_reducible exact Below.refl _ _
      | with_reducible refine below_drewN ?_ _
      | with_reducible refine Below.drew ?_
      | with_reducible refine Below.setCell ?_ ?_ _
      | with_reducible refine Below.alloc ?_ ?_ _
      | with_reducible refine Below.trans ?_ (Below.mono hb2 ?_)
      | with_reducible refine Below.trans ?_ (Below.mono hb1 ?_)
      | omega
      | (simp <;> omega))
end Go.Proofs.Ytjjggnipicpjkaa
