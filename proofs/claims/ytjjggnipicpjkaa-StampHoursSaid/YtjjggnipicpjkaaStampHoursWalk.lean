/-
  The walk of the law StampHours.
-/
import Derived.Test.YtjjggnipicpjkaaStWorks
import Derived.Test.YtjjggnipicpjkaaRg
namespace Go.Proofs.Ytjjggnipicpjkaa
open Go Go.RowKit

/-- The day of a moment. -/
def dayT (t : Tm) : Tm := ⟨t.y, t.mo, t.d, 0, 0, 0⟩
theorem hours_ways (t : Tm) : (rightB (dayT t) = false ∧ rightB t = false) ∨ (rightB (dayT t) = true ∧ (
    (decide (t.h < 24) = false ∧ rightB t = false) ∨ (decide (t.h < 24) = true ∧ decide (t.mi < 60) = false ∧ rightB t = false) ∨
    (decide (t.h < 24) = true ∧ decide (t.mi < 60) = true ∧ decide (t.s < 60) = false ∧ rightB t = false) ∨ (decide (t.h < 24) = true ∧ decide (t.mi < 60) = true ∧ decide (t.s < 60) = true ∧ rightB t = true))) := by
  unfold rightB dayT
  simp only [decide_eq_true_iff, decide_eq_false_iff_not]
  omega
theorem right_any (y mo d h mi s : Int) (w : World) (b : Bool) (hb : rightB ⟨y, mo, d, h, mi, s⟩ = b) (ht : Tm.Fit ⟨y, mo, d, h, mi, s⟩) :
    Calls Try.prog 23 #[.agg #[.int .u16 y, .int .u8 mo, .int .u8 d, .int .u8 h, .int .u8 mi, .int .u8 s]] w fun e w' => e = .returned (.bool b) ∧ Below w.heap.size w w' := by rw [← hb]; exact right_calls ⟨y, mo, d, h, mi, s⟩ w ht

set_option maxRecDepth 100000 in
set_option maxHeartbeats 2000000 in
theorem stampHours_walk (t : Tm) (w : World) (ht : t.Fit) :
    Calls Try.prog 6 #[tmV t] w fun e w' => e = .returned (.bool true) ∧ Below w.heap.size w w' := by
  have hw := hours_ways t
  have hd : (dayT t).Fit := ⟨ht.y, ht.mo, ht.d, by show (0 : Int) ≤ 0 ∧ (0 : Int) ≤ 255; omega, by show (0 : Int) ≤ 0 ∧ (0 : Int) ≤ 255; omega, by show (0 : Int) ≤ 0 ∧ (0 : Int) ≤ 255; omega⟩
  obtain ⟨y, mo, d, h, mi, s⟩ := t
  unfold dayT at hw hd
  unfold tmV
  simp only at hw hd ⊢
  rcases hw with ⟨r2, r1⟩ | ⟨r2, ⟨q1, r1⟩ | ⟨q1, q2, r1⟩ | ⟨q1, q2, q3, r1⟩ | ⟨q1, q2, q3, r1⟩⟩
  all_goals
    have HR1 := Lib.hid (fun W => right_any _ _ _ _ _ _ W _ r1 ht)
    have HR2 := Lib.hid (fun W => right_any _ _ _ _ _ _ W _ r2 hd)
    clear r1 r2 ht hd
    go_enter Try.func6, Try.ntmps6
    go_wp2
    refine' wp_region_grows (by kernel_rfl) (fun w' => w'.cell? ⟨w.heap.size, 0, none⟩ = some (.int .u16 y) ∧ w'.cell? ⟨w.heap.size, 1, none⟩ = some (.int .u8 mo) ∧ w'.cell? ⟨w.heap.size, 2, none⟩ = some (.int .u8 d) ∧ w'.cell? ⟨w.heap.size, 3, none⟩ = some (.int .u8 h) ∧ w'.cell? ⟨w.heap.size, 4, none⟩ = some (.int .u8 mi) ∧ w'.cell? ⟨w.heap.size, 5, none⟩ = some (.int .u8 s) ∧ w'.cell? ⟨w.heap.size + 1, 0, none⟩ = some (.int .u16 y) ∧ w'.cell? ⟨w.heap.size + 1, 1, none⟩ = some (.int .u8 mo) ∧ w'.cell? ⟨w.heap.size + 1, 2, none⟩ = some (.int .u8 d) ∧ w'.cell? ⟨w.heap.size + 1, 3, none⟩ = some (.int .u8 0) ∧ w'.cell? ⟨w.heap.size + 1, 4, none⟩ = some (.int .u8 0) ∧ w'.cell? ⟨w.heap.size + 1, 5, none⟩ = some (.int .u8 0) ∧ Hid (Below w.heap.size w w')) [isV _, isV _, isV _, isV _, isV _, isV _, isV _, isV _, isV _, isV _, isV _, isV _, isV _, isV _, isV _, isV _, isV _, isV _, isV _, isV _, isV _, isV _, isV _, isV _] 34 [[], [(0, some 11)], [], [(2, some 13)], [(3, some 14)], [(4, some 15)], [(5, some 16), (4, some 15)], [(6, some 17), (4, some 15)], [(4, some 15), (7, some 18)], [(8, some 19)], [(9, some 20)], [(10, some 21), (9, some 20)], [(11, some 22), (9, some 20)], [(9, some 20), (12, some 23)], [(13, some 24)], [(14, some 25)], [(15, some 26), (14, some 25)], [(16, some 27), (14, some 25)], [(14, some 25), (17, some 28)], [(1, some 12), (18, some 29)], [(19, some 30)], [(20, some 31)], [(20, some 31), (21, some 32)], [(22, some 33)]] [(0, some 11), (1, some 12), (2, some 13), (3, some 14), (4, some 15), (5, some 16), (6, some 17), (7, some 18), (8, some 19), (9, some 20), (10, some 21), (11, some 22), (12, some 23), (13, some 24), (14, some 25), (15, some 26), (16, some 27), (17, some 28), (18, some 29), (19, some 30), (20, some 31), (21, some 32), (22, some 33), (23, some 2)] rfl (by kernel_rfl) ⟨fun _ _ _ _ h => h, fun _ _ _ _ h => h, fun _ _ _ _ h => h, fun _ _ _ _ h => h, fun _ _ _ _ h => h, fun _ _ _ _ h => h, fun _ _ _ _ h => h, fun _ _ _ _ h => h, fun _ _ _ _ h => h, fun _ _ _ _ h => h, fun _ _ _ _ h => h, fun _ _ _ _ h => h, fun _ _ _ _ h => h, fun _ _ _ _ h => h, fun _ _ _ _ h => h, fun _ _ _ _ h => h, fun _ _ _ _ h => h, fun _ _ _ _ h => h, fun _ _ _ _ h => h, fun _ _ _ _ h => h, fun _ _ _ _ h => h, fun _ _ _ _ h => h, fun _ _ _ _ h => h, fun _ _ _ _ h => h, trivial⟩ (fun _ a a' _ e h => by cases a; cases a'; cases e; exact h) ?hS ?hsteps ?hend
    case hS =>
      intro w' hg
      refine ⟨Grows.cell hg ?_, Grows.cell hg ?_, Grows.cell hg ?_, Grows.cell hg ?_, Grows.cell hg ?_, Grows.cell hg ?_, Grows.cell hg ?_, Grows.cell hg ?_, Grows.cell hg ?_, Grows.cell hg ?_, Grows.cell hg ?_, Grows.cell hg ?_, ?_⟩
      all_goals (first | go_keep | exact Lib.hid (((((Below.refl _ _).alloc (Nat.le_refl _) _).alloc (by simp) _).drew).trans (Below.mono hg (by simp; omega))))
    case hsteps =>
      refine ⟨?_, ?_, ?_, ?_, ?_, ?_, ?_, ?_, ?_, ?_, ?_, ?_, ?_, ?_, ?_, ?_, ?_, ?_, ?_, ?_, ?_, ?_, ?_, ?_, trivial⟩
      · intro w' hs
        simp only [AllV, rgPut]
        obtain ⟨c0, c1, c2, c3, c4, c5, c6, c7, c8, c9, c10, c11, hbb⟩ := hs
        first
          | (refine OpOk.off ?_ ?_ <;> rfl)
          | (refine OpOk.run ?_ (fun K hK => ?_)
             · rfl
             go_simp
             refine hK.out _ _ (Grows.refl _) ?_
             exact rfl)
      · intro w' hs
        simp only [AllV, rdP, isV, forall_eq, rgPut, Act.put, List.setIfInBounds_toArray, List.set_cons_zero, List.set_cons_succ]
        obtain ⟨c0, c1, c2, c3, c4, c5, c6, c7, c8, c9, c10, c11, hbb⟩ := hs
        first
          | (refine OpOk.off ?_ ?_ <;> rfl)
          | (refine OpOk.run ?_ (fun K hK => ?_)
             · rfl
             go_simp
             go_at_call 23
             refine (HR1.out _).mono ?_
             rintro e w1 ⟨rfl, hb⟩
             refine hK.out _ _ hb ?_
             exact rfl
            )
      · intro w' hs
        simp only [AllV, rgPut]
        obtain ⟨c0, c1, c2, c3, c4, c5, c6, c7, c8, c9, c10, c11, hbb⟩ := hs
        first
          | (refine OpOk.off ?_ ?_ <;> rfl)
          | (refine OpOk.run ?_ (fun K hK => ?_)
             · rfl
             go_simp
             refine hK.out _ _ (Grows.refl _) ?_
             exact rfl)
      · intro w' hs
        simp only [AllV, rdP, isV, forall_eq, rgPut, Act.put, List.setIfInBounds_toArray, List.set_cons_zero, List.set_cons_succ]
        obtain ⟨c0, c1, c2, c3, c4, c5, c6, c7, c8, c9, c10, c11, hbb⟩ := hs
        first
          | (refine OpOk.off ?_ ?_ <;> rfl)
          | (refine OpOk.run ?_ (fun K hK => ?_)
             · rfl
             go_simp
             go_at_call 23
             refine (HR2.out _).mono ?_
             rintro e w1 ⟨rfl, hb⟩
             refine hK.out _ _ hb ?_
             exact rfl
            )
      · intro w' hs
        simp only [AllV, rdP, isV, forall_eq, rgPut, Act.put, List.setIfInBounds_toArray, List.set_cons_zero, List.set_cons_succ]
        clear hs
        first
          | (refine OpOk.off ?_ ?_ <;> rfl)
          | (refine OpOk.run ?_ (fun K hK => ?_)
             · rfl
             go_simp
             refine hK.out _ _ (Grows.refl _) ?_
             exact rfl)
      · intro w' hs
        simp only [AllV, rdP, isV, forall_eq, rgPut, Act.put, List.setIfInBounds_toArray, List.set_cons_zero, List.set_cons_succ]
        clear hs
        first
          | (refine OpOk.off ?_ ?_ <;> rfl)
          | (refine OpOk.run ?_ (fun K hK => ?_)
             · rfl
             go_simp
             refine hK.out _ _ (Grows.refl _) ?_
             exact rfl)
      · intro w' hs
        simp only [AllV, rdP, isV, forall_eq, rgPut, Act.put, List.setIfInBounds_toArray, List.set_cons_zero, List.set_cons_succ]
        obtain ⟨c0, c1, c2, c3, c4, c5, c6, c7, c8, c9, c10, c11, hbb⟩ := hs
        first
          | (refine OpOk.off ?_ ?_ <;> rfl)
          | (refine OpOk.run ?_ (fun K hK => ?_)
             · rfl
             go_simp
             refine hK.out _ _ (Grows.refl _) ?_
             exact rfl)
      · intro w' hs
        simp only [AllV, rdP, isV, forall_eq, rgPut, Act.put, List.setIfInBounds_toArray, List.set_cons_zero, List.set_cons_succ]
        clear hs
        first
          | (refine OpOk.off ?_ ?_ <;> rfl)
          | (refine OpOk.run ?_ (fun K hK => ?_)
             · rfl
             go_simp
             refine hK.out _ _ (Grows.refl _) ?_
             exact rfl)
      · intro w' hs
        simp only [AllV, rdP, isV, forall_eq, rgPut, Act.put, List.setIfInBounds_toArray, List.set_cons_zero, List.set_cons_succ]
        clear hs
        first
          | (refine OpOk.off ?_ ?_ <;> rfl)
          | (refine OpOk.run ?_ (fun K hK => ?_)
             · rfl
             go_simp
             refine hK.out _ _ (Grows.refl _) ?_
             exact rfl)
      · intro w' hs
        simp only [AllV, rdP, isV, forall_eq, rgPut, Act.put, List.setIfInBounds_toArray, List.set_cons_zero, List.set_cons_succ]
        clear hs
        first
          | (refine OpOk.off ?_ ?_ <;> rfl)
          | (refine OpOk.run ?_ (fun K hK => ?_)
             · rfl
             go_simp
             refine hK.out _ _ (Grows.refl _) ?_
             exact rfl)
      · intro w' hs
        simp only [AllV, rdP, isV, forall_eq, rgPut, Act.put, List.setIfInBounds_toArray, List.set_cons_zero, List.set_cons_succ]
        clear hs
        first
          | (refine OpOk.off ?_ ?_ <;> rfl)
          | (refine OpOk.run ?_ (fun K hK => ?_)
             · rfl
             go_simp
             refine hK.out _ _ (Grows.refl _) ?_
             exact rfl)
      · intro w' hs
        simp only [AllV, rdP, isV, forall_eq, rgPut, Act.put, List.setIfInBounds_toArray, List.set_cons_zero, List.set_cons_succ]
        obtain ⟨c0, c1, c2, c3, c4, c5, c6, c7, c8, c9, c10, c11, hbb⟩ := hs
        first
          | (refine OpOk.off ?_ ?_ <;> rfl)
          | (refine OpOk.run ?_ (fun K hK => ?_)
             · rfl
             go_simp
             refine hK.out _ _ (Grows.refl _) ?_
             exact rfl)
      · intro w' hs
        simp only [AllV, rdP, isV, forall_eq, rgPut, Act.put, List.setIfInBounds_toArray, List.set_cons_zero, List.set_cons_succ]
        clear hs
        first
          | (refine OpOk.off ?_ ?_ <;> rfl)
          | (refine OpOk.run ?_ (fun K hK => ?_)
             · rfl
             go_simp
             refine hK.out _ _ (Grows.refl _) ?_
             exact rfl)
      · intro w' hs
        simp only [AllV, rdP, isV, forall_eq, rgPut, Act.put, List.setIfInBounds_toArray, List.set_cons_zero, List.set_cons_succ]
        clear hs
        first
          | (refine OpOk.off ?_ ?_ <;> rfl)
          | (refine OpOk.run ?_ (fun K hK => ?_)
             · rfl
             go_simp
             refine hK.out _ _ (Grows.refl _) ?_
             exact rfl)
      · intro w' hs
        simp only [AllV, rdP, isV, forall_eq, rgPut, Act.put, List.setIfInBounds_toArray, List.set_cons_zero, List.set_cons_succ]
        clear hs
        first
          | (refine OpOk.off ?_ ?_ <;> rfl)
          | (refine OpOk.run ?_ (fun K hK => ?_)
             · rfl
             go_simp
             refine hK.out _ _ (Grows.refl _) ?_
             exact rfl)
      · intro w' hs
        simp only [AllV, rdP, isV, forall_eq, rgPut, Act.put, List.setIfInBounds_toArray, List.set_cons_zero, List.set_cons_succ]
        clear hs
        first
          | (refine OpOk.off ?_ ?_ <;> rfl)
          | (refine OpOk.run ?_ (fun K hK => ?_)
             · rfl
             go_simp
             refine hK.out _ _ (Grows.refl _) ?_
             exact rfl)
      · intro w' hs
        simp only [AllV, rdP, isV, forall_eq, rgPut, Act.put, List.setIfInBounds_toArray, List.set_cons_zero, List.set_cons_succ]
        obtain ⟨c0, c1, c2, c3, c4, c5, c6, c7, c8, c9, c10, c11, hbb⟩ := hs
        first
          | (refine OpOk.off ?_ ?_ <;> rfl)
          | (refine OpOk.run ?_ (fun K hK => ?_)
             · rfl
             go_simp
             refine hK.out _ _ (Grows.refl _) ?_
             exact rfl)
      · intro w' hs
        simp only [AllV, rdP, isV, forall_eq, rgPut, Act.put, List.setIfInBounds_toArray, List.set_cons_zero, List.set_cons_succ]
        clear hs
        first
          | (refine OpOk.off ?_ ?_ <;> rfl)
          | (refine OpOk.run ?_ (fun K hK => ?_)
             · rfl
             go_simp
             refine hK.out _ _ (Grows.refl _) ?_
             exact rfl)
      · intro w' hs
        simp only [AllV, rdP, isV, forall_eq, rgPut, Act.put, List.setIfInBounds_toArray, List.set_cons_zero, List.set_cons_succ]
        clear hs
        first
          | (refine OpOk.off ?_ ?_ <;> rfl)
          | (refine OpOk.run ?_ (fun K hK => ?_)
             · rfl
             go_simp
             refine hK.out _ _ (Grows.refl _) ?_
             exact rfl)
      · intro w' hs
        simp only [AllV, rdP, isV, forall_eq, rgPut, Act.put, List.setIfInBounds_toArray, List.set_cons_zero, List.set_cons_succ]
        clear hs
        first
          | (refine OpOk.off ?_ ?_ <;> rfl)
          | (refine OpOk.run ?_ (fun K hK => ?_)
             · rfl
             go_simp
             refine hK.out _ _ (Grows.refl _) ?_
             exact rfl)
      · intro w' hs
        simp only [AllV, rdP, isV, forall_eq, rgPut, Act.put, List.setIfInBounds_toArray, List.set_cons_zero, List.set_cons_succ]
        clear hs
        first
          | (refine OpOk.off ?_ ?_ <;> rfl)
          | (refine OpOk.run ?_ (fun K hK => ?_)
             · rfl
             go_simp
             refine hK.out _ _ (Grows.refl _) ?_
             exact rfl)
      · intro w' hs
        simp only [AllV, rdP, isV, forall_eq, rgPut, Act.put, List.setIfInBounds_toArray, List.set_cons_zero, List.set_cons_succ]
        obtain ⟨c0, c1, c2, c3, c4, c5, c6, c7, c8, c9, c10, c11, hbb⟩ := hs
        first
          | (refine OpOk.off ?_ ?_ <;> rfl)
          | (refine OpOk.run ?_ (fun K hK => ?_)
             · rfl
             go_simp
             go_at_call 13
             refine (works_calls _).mono ?_
             rintro e w1 ⟨rfl, hb⟩
             refine hK.out _ _ hb ?_
             exact rfl
            )
      · intro w' hs
        simp only [AllV, rdP, isV, forall_eq, rgPut, Act.put, List.setIfInBounds_toArray, List.set_cons_zero, List.set_cons_succ]
        clear hs
        first
          | (refine OpOk.off ?_ ?_ <;> rfl)
          | (refine OpOk.run ?_ (fun K hK => ?_)
             · rfl
             go_simp
             refine hK.out _ _ (Grows.refl _) ?_
             exact rfl)
      · intro w' hs
        simp only [AllV, rdP, isV, forall_eq, rgPut, Act.put, List.setIfInBounds_toArray, List.set_cons_zero, List.set_cons_succ]
        clear hs
        first
          | (refine OpOk.off ?_ ?_ <;> rfl)
          | (refine OpOk.run ?_ (fun K hK => ?_)
             · rfl
             go_simp
             refine hK.out _ _ (Grows.refl _) ?_
             exact rfl)
    case hend =>
      intro w' hs
      simp only [AllV, rdP, isV, forall_eq, rgPut, Act.put, List.setIfInBounds_toArray, List.set_cons_zero, List.set_cons_succ]
      go_wp2
      go_ret
      exact ⟨rfl, (hs.2.2.2.2.2.2.2.2.2.2.2.2).out⟩
end Go.Proofs.Ytjjggnipicpjkaa
