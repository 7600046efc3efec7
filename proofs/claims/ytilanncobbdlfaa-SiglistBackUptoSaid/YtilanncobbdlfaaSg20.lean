/-
  The contract of vast: what is not vast holds a hundred lists at most, and of each item 16384 bytes at most.
-/
import Derived.Test.YtilanncobbdlfaaSg16
namespace Go.Proofs.Ytilanncobbdlfaa
open Go Go.RowKit
set_option linter.unusedVariables false

set_option maxRecDepth 100000 in
set_option maxHeartbeats 4000000 in
theorem vast_calls (v : Value) (xs : List LiV) (w : World) (hv : Lis w v xs) :
    Calls Try.prog 14 #[v] w fun e w' => (∃ B, e = .returned (.bool B) ∧ (B = false → xs.length ≤ 100 ∧ ∀ x ∈ xs, ∀ y ∈ x.i, y.d.length ≤ 16384)) ∧ w = w' := by
  have HV := Lib.hid hv
  obtain ⟨a, cap, rfl, h1, h2⟩ := hv.open
  clear hv
  obtain ⟨N, hN⟩ : ∃ n, Hid (n = xs.length) := ⟨_, Lib.hid rfl⟩
  rw [← hN.out] at HV h1 ⊢
  by_cases hN1 : 100 < N
  · have hd : decide ((100 : Int) < (N : Int)) = true := by simp; omega
    go_enter Try.func14, Try.ntmps14
    go_wp2
    go_ret
    exact ⟨⟨_, rfl, fun h => by cases h⟩, rfl⟩
  have hd : decide ((100 : Int) < (N : Int)) = false := by simp; omega
  go_enter Try.func14, Try.ntmps14
  go_wp2
  go_loopw [4, 3] (fun j_ n_ wr => ∃ j q : Nat, j ≤ N ∧ q ≤ 1024 ∧ j_ = .int .i64 j ∧ n_ = .int .i64 q ∧ Hid (∀ (r : Nat) (x : LiV), r < j → xs[r]? = some x → ∀ y ∈ x.i, y.d.length ≤ 16384) ∧ w = wr) (fun j_ _ _ => N - (intOf j_).toNat)
  case atStart => exact ⟨0, 0, Nat.zero_le _, by omega, rfl, rfl, Lib.hid (fun r x hr => absurd hr (Nat.not_lt_zero _)), rfl⟩
  case round =>
    obtain ⟨j, q, hj, hq, rfl, rfl, hgood, hww⟩ := hrel
    subst hww
    by_cases hlt : j < N
    · obtain ⟨b, off, x, ia, n, ic, hx, ha, hrow, hxv, hm, hmc, hc, hits⟩ := HV.out.item j (by rw [← hN.out]; exact hlt)
      subst ha
      have hdl : decide ((j : Int) < (N : Int)) = true := by simp; omega
      have HX := Lib.hid hx
      have HC2 : Hid (w.cell? ⟨b, off + j * 2 + 1, none⟩ = some (.slice ia n ic)) := Lib.hid (hrow 1 _ rfl)
      have HITS := Lib.hid hits
      have HNI := Lib.hid hm
      have q1 := HC2.out
      clear hrow hx hxv hm hits
      by_cases h32 : ¬ 1024 < n
      · by_cases hbig : 1024 < q + n
        · have h0n : decide ((0 : Int) < (n : Int)) = true := by simp; omega
          have hle : decide ((q : Int) + (n : Int) ≤ 1024) = false := by simp; omega
          have hgt : decide ((1024 : Int) < (q : Int) + (n : Int)) = true := by simp; omega
          go_wp2
          go_loopw [5] (fun i_ wr => i_ = .int .i64 0 ∧ w = wr) (fun i_ _ => 0)
          case atStart => exact ⟨rfl, rfl⟩
          case round =>
            obtain ⟨rfl, hww⟩ := hrel
            subst hww
            have q1 := HC2.out
            go_wp2
            go_ret
            exact ⟨⟨_, rfl, fun h => by cases h⟩, rfl⟩
        · have hle : decide ((q : Int) + (n : Int) ≤ 1024) = true := by simp; omega
          have hgt : decide ((1024 : Int) < (q : Int) + (n : Int)) = false := by simp; omega
          go_wp2
          go_loopw [5] (fun i_ wr => ∃ i : Nat, i ≤ n ∧ i_ = .int .i64 i ∧ Hid (∀ (r : Nat) (y : ItV), r < i → x.i[r]? = some y → y.d.length ≤ 16384) ∧ w = wr) (fun i_ _ => n - (intOf i_).toNat)
          case atStart => exact ⟨0, Nat.zero_le _, rfl, Lib.hid (fun r y hr => absurd hr (Nat.not_lt_zero _)), rfl⟩
          case round =>
            obtain ⟨i, hi, rfl, hgi, hww⟩ := hrel
            subst hww
            have q1 := HC2.out
            by_cases hlt3 : i < n
            · obtain ⟨ib, io, y, s, m, c, hy, hia, hry, hyv, hym, hymc, hyc, hyb, hyl, hyC, hy1⟩ := HITS.out.item i (by rw [← HNI.out]; exact hlt3)
              cases hia
              have hdl3 : decide ((i : Int) < (n : Int)) = true := by simp; omega
              have HYE := Lib.hid hy
              have HYM := Lib.hid hym
              have q3 : w.cell? ⟨ib, io + i * 17 + 16, none⟩ = some (.slice s m c) := by
                have := hry 16 _ (itC_at16 y hyl)
                rw [hyv] at this
                exact this
              clear hry hy hyv hyb hyl hyC hy1 hym
              by_cases hmm : 16384 < m
              · have hmd : decide ((16384 : Int) < (m : Int)) = true := by simp; omega
                go_wp2
                go_ret
                exact ⟨⟨_, rfl, fun h => by cases h⟩, rfl⟩
              · have hmd : decide ((16384 : Int) < (m : Int)) = false := by simp; omega
                go_wp2
                go_roundw
                case rel => exact ⟨i + 1, hlt3, by go_num, Lib.hid (fun r y2 hr hy2 => by
                  by_cases e : r = i
                  · subst e
                    rw [HYE.out] at hy2
                    cases hy2
                    rw [← HYM.out]; omega
                  · exact hgi.out r y2 (by omega) hy2), by trivial⟩
                case measure => simp [intOf]; omega
            · obtain rfl : i = n := by omega
              have hdl3 : decide ((i : Int) < (i : Int)) = false := by simp
              go_wp2
              go_roundw
              case rel => exact ⟨j + 1, q + i, hlt, by omega, by go_num, by go_num, Lib.hid (fun r x2 hr hx2 => by
                  by_cases e : r = j
                  · subst e
                    rw [HX.out] at hx2
                    cases hx2
                    intro y hy
                    obtain ⟨p, hp, e⟩ := List.getElem_of_mem hy
                    exact hgi.out p y (by rw [HNI.out]; exact hp) (by rw [← e]; exact List.getElem?_eq_getElem hp)
                  · exact hgood.out r x2 (by omega) hx2), by trivial⟩
              case measure => simp [intOf]; omega
      · by_cases hbig : 1024 < q + 1024
        · have h0n : decide ((0 : Int) < (n : Int)) = true := by simp; omega
          have hle : decide ((q : Int) + 1024 ≤ 1024) = false := by simp; omega
          have hgt : decide ((1024 : Int) < (q : Int) + 1024) = true := by simp; omega
          go_wp2
          go_loopw [5] (fun i_ wr => i_ = .int .i64 0 ∧ w = wr) (fun i_ _ => 0)
          case atStart => exact ⟨rfl, rfl⟩
          case round =>
            obtain ⟨rfl, hww⟩ := hrel
            subst hww
            have q1 := HC2.out
            go_wp2
            go_ret
            exact ⟨⟨_, rfl, fun h => by cases h⟩, rfl⟩
        · have hle : decide ((q : Int) + 1024 ≤ 1024) = true := by simp; omega
          have hgt : decide ((1024 : Int) < (q : Int) + 1024) = false := by simp; omega
          go_wp2
          go_loopw [5] (fun i_ wr => ∃ i : Nat, i ≤ n ∧ i_ = .int .i64 i ∧ Hid (∀ (r : Nat) (y : ItV), r < i → x.i[r]? = some y → y.d.length ≤ 16384) ∧ w = wr) (fun i_ _ => n - (intOf i_).toNat)
          case atStart => exact ⟨0, Nat.zero_le _, rfl, Lib.hid (fun r y hr => absurd hr (Nat.not_lt_zero _)), rfl⟩
          case round =>
            obtain ⟨i, hi, rfl, hgi, hww⟩ := hrel
            subst hww
            have q1 := HC2.out
            by_cases hlt3 : i < n
            · obtain ⟨ib, io, y, s, m, c, hy, hia, hry, hyv, hym, hymc, hyc, hyb, hyl, hyC, hy1⟩ := HITS.out.item i (by rw [← HNI.out]; exact hlt3)
              cases hia
              have hdl3 : decide ((i : Int) < (n : Int)) = true := by simp; omega
              have HYE := Lib.hid hy
              have HYM := Lib.hid hym
              have q3 : w.cell? ⟨ib, io + i * 17 + 16, none⟩ = some (.slice s m c) := by
                have := hry 16 _ (itC_at16 y hyl)
                rw [hyv] at this
                exact this
              clear hry hy hyv hyb hyl hyC hy1 hym
              by_cases hmm : 16384 < m
              · have hmd : decide ((16384 : Int) < (m : Int)) = true := by simp; omega
                go_wp2
                go_ret
                exact ⟨⟨_, rfl, fun h => by cases h⟩, rfl⟩
              · have hmd : decide ((16384 : Int) < (m : Int)) = false := by simp; omega
                go_wp2
                go_roundw
                case rel => exact ⟨i + 1, hlt3, by go_num, Lib.hid (fun r y2 hr hy2 => by
                  by_cases e : r = i
                  · subst e
                    rw [HYE.out] at hy2
                    cases hy2
                    rw [← HYM.out]; omega
                  · exact hgi.out r y2 (by omega) hy2), by trivial⟩
                case measure => simp [intOf]; omega
            · obtain rfl : i = n := by omega
              have hdl3 : decide ((i : Int) < (i : Int)) = false := by simp
              go_wp2
              go_roundw
              case rel => exact ⟨j + 1, q + 1024, hlt, by omega, by go_num, by go_num, Lib.hid (fun r x2 hr hx2 => by
                  by_cases e : r = j
                  · subst e
                    rw [HX.out] at hx2
                    cases hx2
                    intro y hy
                    obtain ⟨p, hp, e⟩ := List.getElem_of_mem hy
                    exact hgi.out p y (by rw [HNI.out]; exact hp) (by rw [← e]; exact List.getElem?_eq_getElem hp)
                  · exact hgood.out r x2 (by omega) hx2), by trivial⟩
              case measure => simp [intOf]; omega
    · obtain rfl : j = N := by omega
      have hdl : decide ((j : Int) < (j : Int)) = false := by simp
      have HE : Hid (xs.length ≤ 100 ∧ ∀ x ∈ xs, ∀ y ∈ x.i, y.d.length ≤ 16384) := Lib.hid ⟨by rw [← hN.out]; omega, fun x hx => by
        obtain ⟨r, hr, e⟩ := List.getElem_of_mem hx
        exact hgood.out r x (by rw [hN.out]; exact hr) (by rw [← e]; exact List.getElem?_eq_getElem hr)⟩
      go_wp2
      go_ret
      exact ⟨⟨_, rfl, fun _ => by rw [hN.out]; exact HE.out⟩, rfl⟩
end Go.Proofs.Ytilanncobbdlfaa
