/-
  The contract of the document's own Less.
-/
import Derived.Test.YtjjggnipicpjkaaStamp4
import Derived.Test.YtjjggnipicpjkaaRow
import Derived.BigQuiet
namespace Go.Proofs.Ytjjggnipicpjkaa
open Go Go.RowKit

theorem less_at (t u : Tm) (ht : t.Fit) (hu : u.Fit) (k : Nat) (hk : k < 6) (he : ∀ j, j < k → (ptL t).getD j 0 = (ptL u).getD j 0) (hn : (ptL t).getD k 0 ≠ (ptL u).getD k 0) :
    lessB t u = decide ((ptL t).getD k 0 < (ptL u).getD k 0) := by
  rw [← cmpL_ptL t u ht hu, cmpL_at (ptL t) (ptL u) k rfl hk he hn]
  unfold cmp1
  apply decide_eq_decide.2
  split
  · constructor <;> intro _ <;> omega
  · split <;> constructor <;> intro _ <;> omega
theorem less_none (t u : Tm) (ht : t.Fit) (hu : u.Fit) (he : ∀ j, j < 6 → (ptL t).getD j 0 = (ptL u).getD j 0) : lessB t u = false := by
  rw [← cmpL_ptL t u ht hu, cmpL_eq (ptL t) (ptL u) rfl he]
  rfl
theorem pt_row (t : Tm) (k : Nat) (hk : k < 6) : #[Value.int .i64 t.y, .int .i64 t.mo, .int .i64 t.d, .int .i64 t.h, .int .i64 t.mi, .int .i64 t.s][k]? = some (.int .i64 ((ptL t).getD k 0)) := by
  have : k = 0 ∨ k = 1 ∨ k = 2 ∨ k = 3 ∨ k = 4 ∨ k = 5 := by omega
  rcases this with rfl | rfl | rfl | rfl | rfl | rfl <;> rfl

set_option maxRecDepth 100000 in
set_option maxHeartbeats 4000000 in
theorem refLess_calls (t u : Tm) (w : World) (ht : t.Fit) (hu : u.Fit) :
    Calls Try.prog 30 #[tmV t, tmV u] w fun e w' => e = .returned (.bool (lessB t u)) ∧ Below w.heap.size w w' := by
  have HA := Lib.hid (less_at t u ht hu)
  have HN := Lib.hid (less_none t u ht hu)
  have HPt := Lib.hid (pt_row t)
  have HPu := Lib.hid (pt_row u)
  obtain ⟨p, hp⟩ : ∃ p : Nat → Int, Hid (p = fun k => (ptL t).getD k 0) := ⟨_, Lib.hid rfl⟩
  obtain ⟨q, hq⟩ : ∃ p : Nat → Int, Hid (p = fun k => (ptL u).getD k 0) := ⟨_, Lib.hid rfl⟩
  have HA2 : Hid (∀ k, k < 6 → (∀ j, j < k → p j = q j) → p k ≠ q k → lessB t u = decide (p k < q k)) := Lib.hid (by rw [hp.out, hq.out]; exact HA.out)
  have HN2 : Hid ((∀ j, j < 6 → p j = q j) → lessB t u = false) := Lib.hid (by rw [hp.out, hq.out]; exact HN.out)
  obtain ⟨y, mo, d, h, mi, s⟩ := t
  obtain ⟨y2, mo2, d2, h2, mi2, s2⟩ := u
  have HP2 : Hid (∀ k, k < 6 → #[Value.int .i64 y, .int .i64 mo, .int .i64 d, .int .i64 h, .int .i64 mi, .int .i64 s][k]? = some (.int .i64 (p k))) := Lib.hid (fun k hk => by rw [hp.out]; exact HPt.out k hk)
  have HQ2 : Hid (∀ k, k < 6 → #[Value.int .i64 y2, .int .i64 mo2, .int .i64 d2, .int .i64 h2, .int .i64 mi2, .int .i64 s2][k]? = some (.int .i64 (q k))) := Lib.hid (fun k hk => by rw [hq.out]; exact HPu.out k hk)
  obtain ⟨LB, hLB⟩ : ∃ B, Hid (B = lessB ⟨y, mo, d, h, mi, s⟩ ⟨y2, mo2, d2, h2, mi2, s2⟩) := ⟨_, Lib.hid rfl⟩
  rw [← hLB.out] at HA2 HN2 ⊢
  clear HA HN HPt HPu hp hq hLB
  unfold tmV
  simp only
  obtain ⟨a1, a2, a3, a4, a5, a6⟩ := ht
  obtain ⟨b1, b2, b3, b4, b5, b6⟩ := hu
  simp only at a1 a2 a3 a4 a5 a6 b1 b2 b3 b4 b5 b6
  go_enter Try.func30, Try.ntmps30
  go_wp2
  go_loopw [7] (fun i wr => ∃ k : Nat, k ≤ 6 ∧ i = .int .i64 k ∧ Hid (∀ j, j < k → p j = q j) ∧ Hid (Below w.heap.size w wr) ∧ Hid (RowAt wr (w.heap.size + 2) #[.int .i64 y, .int .i64 mo, .int .i64 d, .int .i64 h, .int .i64 mi, .int .i64 s]) ∧ Hid (RowAt wr (w.heap.size + 3) #[.int .i64 y2, .int .i64 mo2, .int .i64 d2, .int .i64 h2, .int .i64 mi2, .int .i64 s2])) (fun i _ => 6 - (intOf i).toNat)
  case atStart =>
    refine ⟨0, by omega, rfl, Lib.hid (fun j hj => by omega), Lib.hid ?_, Lib.hid ?_, Lib.hid ?_⟩
    · exact ((((Below.refl _ _).alloc (Nat.le_refl _) _).alloc (by simp) _).alloc (by simp; omega) _).alloc (by simp; omega) _
    · exact (RowAt.new _ _ _ _ (by simp)).alloc _
    · exact RowAt.new _ _ _ _ (by simp)
  case round =>
    obtain ⟨k, hk, rfl, he, hb, hx, hy⟩ := hrel
    clear a1 a2 a3 a4 a5 a6 b1 b2 b3 b4 b5 b6
    by_cases hlt : k < 6
    · have cx := hx.out.cell k _ (HP2.out k hlt)
      have cy := hy.out.cell k _ (HQ2.out k hlt)
      have j0 : (0 : Int) ≤ (k : Int) := by omega
      have j6 : (k : Int) < 6 := by omega
      by_cases hpq : p k = q k
      · have hpe : (p k == q k) = true := by simpa using hpq
        have hpn : (p k != q k) = false := by simpa using hpq
        have HE : Hid (∀ j, j < k + 1 → p j = q j) := Lib.hid (fun j hj => by
          by_cases e : j = k
          · rw [e]; exact hpq
          · exact he.out j (by omega))
        clear hpq
        go_wp2
        go_quiet (fail)
        go_wp2
        go_roundw
        case rel => exact ⟨k + 1, by omega, by go_num, HE, Lib.hid (below_drewN hb.out _), Lib.hid (hx.out.drewN _), Lib.hid (hy.out.drewN _)⟩
        case measure => simp [intOf]; omega
      · have hpe : (p k == q k) = false := by simpa using hpq
        have hpn : (p k != q k) = true := by simpa using hpq
        have HR := Lib.hid (HA2.out k hlt he.out hpq)
        clear hpq
        go_wp2
        go_quiet (fail)
        have cx2 := (hx.out.drewN 1).cell k _ (HP2.out k hlt)
        go_wp2
        go_quiet (fail)
        go_wp2
        go_ret
        exact ⟨ret_bool HR.out.symm, below_drewN (below_drewN hb.out _) _⟩
    · obtain rfl : k = 6 := by omega
      have HR := Lib.hid (HN2.out he.out)
      go_wp2
      go_ret
      exact ⟨ret_bool HR.out.symm, hb.out⟩
end Go.Proofs.Ytjjggnipicpjkaa
