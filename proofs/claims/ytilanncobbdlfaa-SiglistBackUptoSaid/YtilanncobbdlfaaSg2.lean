/-
  The contracts of siglist's name, number and may, and of the document's own.
-/
import Derived.Test.YtilanncobbdlfaaSg1
import Derived.Test.YtilanncobbdlfaaStamp10
import Derived.Test.YtilanncobbdlfaaOct4
namespace Go.Proofs.Ytilanncobbdlfaa
open Go Go.RowKit
set_option linter.unusedVariables false

theorem nm_ways (k : Int) : (k = 1 ∧ nmL k = nm1) ∨ (k ≠ 1 ∧ k = 2 ∧ nmL k = nm2) ∨ (k ≠ 1 ∧ k ≠ 2 ∧ k = 3 ∧ nmL k = nm3) ∨ (k ≠ 1 ∧ k ≠ 2 ∧ k ≠ 3 ∧ nmL k = []) := by
  by_cases h1 : k = 1
  · exact .inl ⟨h1, by unfold nmL; rw [if_pos h1]⟩
  · by_cases h2 : k = 2
    · exact .inr (.inl ⟨h1, h2, by unfold nmL; rw [if_neg h1, if_pos h2]⟩)
    · by_cases h3 : k = 3
      · exact .inr (.inr (.inl ⟨h1, h2, h3, by unfold nmL; rw [if_neg h1, if_neg h2, if_pos h3]⟩))
      · exact .inr (.inr (.inr ⟨h1, h2, h3, by unfold nmL; rw [if_neg h1, if_neg h2, if_neg h3]⟩))

theorem name_calls (k : Int) (w : World) : Calls Try.prog 31 #[.int .u8 k] w fun e w' => e = .returned (.string (sOf (nmL k))) ∧ w = w' := by
  rcases nm_ways k with ⟨h1, e⟩ | ⟨h1, h2, e⟩ | ⟨h1, h2, h3, e⟩ | ⟨h1, h2, h3, e⟩
  · have he := Lib.hid e
    clear e
    have t0 : (k == 1) = true := by simpa using h1
    go_enter Try.func31, Try.ntmps31
    go_wp2
    go_ret
    rw [he.out]
    exact ⟨rfl, rfl⟩
  · have he := Lib.hid e
    clear e
    have t0 : (k == 1) = false := by simpa using h1
    have t1 : (k == 2) = true := by simpa using h2
    go_enter Try.func31, Try.ntmps31
    go_wp2
    go_ret
    rw [he.out]
    exact ⟨rfl, rfl⟩
  · have he := Lib.hid e
    clear e
    have t0 : (k == 1) = false := by simpa using h1
    have t1 : (k == 2) = false := by simpa using h2
    have t2 : (k == 3) = true := by simpa using h3
    go_enter Try.func31, Try.ntmps31
    go_wp2
    go_ret
    rw [he.out]
    exact ⟨rfl, rfl⟩
  · have he := Lib.hid e
    clear e
    have t0 : (k == 1) = false := by simpa using h1
    have t1 : (k == 2) = false := by simpa using h2
    have t2 : (k == 3) = false := by simpa using h3
    go_enter Try.func31, Try.ntmps31
    go_wp2
    go_ret
    rw [he.out]
    exact ⟨rfl, rfl⟩

theorem refName_calls (k : Int) (w : World) : Calls Try.prog 44 #[.int .u8 k] w fun e w' => ∃ v', e = .returned v' ∧ Byt w' v' (nmL k) ∧ Below w.heap.size w w' := by
  rcases nm_ways k with ⟨h1, e⟩ | ⟨h1, h2, e⟩ | ⟨h1, h2, h3, e⟩ | ⟨h1, h2, h3, e⟩
  · have he := Lib.hid e
    clear e
    have t0 : (k == 1) = true := by simpa using h1
    have HA := Lib.hid (Byt.made w nm1 #[.int .u8 38, .int .u8 22, .int .u8 196, .int .u8 193, .int .u8 76, .int .u8 80, .int .u8 146, .int .u8 64, .int .u8 172, .int .u8 169, .int .u8 65, .int .u8 249, .int .u8 54, .int .u8 147, .int .u8 67, .int .u8 40] 5 (0, 0) rfl (by unfold maxLen; decide))
    go_enter Try.func44, Try.ntmps44
    go_wp2
    go_ret
    rw [he.out]
    exact ⟨_, rfl, HA.out, (Below.refl _ _).alloc (Nat.le_refl _) _⟩
  · have he := Lib.hid e
    clear e
    have t0 : (k == 1) = false := by simpa using h1
    have t1 : (k == 2) = true := by simpa using h2
    have HA := Lib.hid (Byt.made w nm2 #[.int .u8 161, .int .u8 89, .int .u8 192, .int .u8 165, .int .u8 228, .int .u8 148, .int .u8 167, .int .u8 74, .int .u8 135, .int .u8 181, .int .u8 171, .int .u8 21, .int .u8 92, .int .u8 43, .int .u8 240, .int .u8 114] 5 (0, 0) rfl (by unfold maxLen; decide))
    go_enter Try.func44, Try.ntmps44
    go_wp2
    go_ret
    rw [he.out]
    exact ⟨_, rfl, HA.out, (Below.refl _ _).alloc (Nat.le_refl _) _⟩
  · have he := Lib.hid e
    clear e
    have t0 : (k == 1) = false := by simpa using h1
    have t1 : (k == 2) = false := by simpa using h2
    have t2 : (k == 3) = true := by simpa using h3
    have HA := Lib.hid (Byt.made w nm3 #[.int .u8 146, .int .u8 164, .int .u8 210, .int .u8 59, .int .u8 192, .int .u8 150, .int .u8 121, .int .u8 64, .int .u8 180, .int .u8 32, .int .u8 252, .int .u8 249, .int .u8 142, .int .u8 241, .int .u8 3, .int .u8 237] 5 (0, 0) rfl (by unfold maxLen; decide))
    go_enter Try.func44, Try.ntmps44
    go_wp2
    go_ret
    rw [he.out]
    exact ⟨_, rfl, HA.out, (Below.refl _ _).alloc (Nat.le_refl _) _⟩
  · have he := Lib.hid e
    clear e
    have t0 : (k == 1) = false := by simpa using h1
    have t1 : (k == 2) = false := by simpa using h2
    have t2 : (k == 3) = false := by simpa using h3
    go_enter Try.func44, Try.ntmps44
    go_wp2
    go_ret
    rw [he.out]
    exact ⟨_, rfl, Byt.nil _, Below.refl _ _⟩

theorem number_calls (v : Value) (l : List UInt8) (p : Nat) (w : World) (hv : Byt w v l) (hl : l.length ≤ 1000000000) (hp : p + 4 ≤ l.length) :
    Calls Try.prog 39 #[v, .int .i64 (p : Int)] w fun e w' => e = .returned (.int .i64 (n4 l p : Int)) ∧ Below w.heap.size w w' := by
  have HG : Hid (∀ W, Byt W v l → Calls Try.prog 48 #[v, .int .i64 (p : Int), .int .i64 4] W fun e w' => (∃ E, e = .returned (.tuple #[.int .u64 (n4 l p : Int), .int .i64 E])) ∧ Below W.heap.size W w') := Lib.hid (fun W h => by
    have := get_calls _ l (p : Int) 4 W h (by unfold I64; omega) (by unfold I64; omega) (by omega)
    have hg : gotL l (p : Int) 4 = n4 l p := by
      unfold gotL getOk
      rw [show sizedB 4 = true by decide, (withinB_iff _ _ _).2 (by omega), if_pos (by rfl)]
      rfl
    rw [hg] at this
    exact this.mono fun e w' ⟨he, hb⟩ => ⟨⟨_, he⟩, hb⟩)
  have HV := Lib.hid hv
  clear hv
  have hlt := n4_lt l p
  obtain ⟨N, hN⟩ : ∃ N, Hid (N = n4 l p) := ⟨_, Lib.hid rfl⟩
  rw [← hN.out] at HG hlt ⊢
  have t3 : IntKind.i64.wrap (N : Int) = (N : Int) := IntWalk.i64_in _ (by omega)
  clear hp
  go_enter Try.func39, Try.ntmps39
  go_wp2_with fail
  refine (HG.out _ HV.out).mono ?_
  rintro e w1 ⟨⟨E, rfl⟩, hb⟩
  have HB := Lib.hid hb
  clear hb
  go_wp2
  go_ret
  exact ⟨rfl, HB.out⟩

theorem refNumber_calls (v : Value) (l : List UInt8) (p : Nat) (w : World) (hv : Byt w v l) (hl : l.length ≤ 1000000000) (hp : p + 4 ≤ l.length) :
    Calls Try.prog 45 #[v, .int .i64 (p : Int)] w fun e w' => e = .returned (.int .i64 (n4 l p : Int)) ∧ Below w.heap.size w w' := by
  have HG : Hid (∀ W, Byt W v l → Calls Try.prog 51 #[v, .int .i64 (p : Int), .int .i64 4] W fun e w' => (∃ E, e = .returned (.tuple #[.int .u64 (n4 l p : Int), .int .i64 E])) ∧ Below W.heap.size W w') := Lib.hid (fun W h => by
    have := refGet_calls _ l (p : Int) 4 W h (by unfold I64; omega) (by unfold I64; omega) (by omega)
    have hg : gotL l (p : Int) 4 = n4 l p := by
      unfold gotL getOk
      rw [show sizedB 4 = true by decide, (withinB_iff _ _ _).2 (by omega), if_pos (by rfl)]
      rfl
    rw [hg] at this
    exact this.mono fun e w' ⟨he, hb⟩ => ⟨⟨_, he⟩, hb⟩)
  have HV := Lib.hid hv
  clear hv
  have hlt := n4_lt l p
  obtain ⟨N, hN⟩ : ∃ N, Hid (N = n4 l p) := ⟨_, Lib.hid rfl⟩
  rw [← hN.out] at HG hlt ⊢
  have t3 : IntKind.i64.wrap (N : Int) = (N : Int) := IntWalk.i64_in _ (by omega)
  clear hp
  go_enter Try.func45, Try.ntmps45
  go_wp2_with fail
  refine (HG.out _ HV.out).mono ?_
  rintro e w1 ⟨⟨E, rfl⟩, hb⟩
  have HB := Lib.hid hb
  clear hb
  go_wp2
  go_ret
  exact ⟨rfl, HB.out⟩

theorem may_ways (k : Int) (d : List UInt8) : (k = 1 ∧ mayB k d = decide (d.length = 32)) ∨ (k ≠ 1 ∧ k = 2 ∧ ((d.length < 1 ∧ mayB k d = false) ∨ (1 ≤ d.length ∧ 8192 < d.length ∧ mayB k d = false) ∨ (1 ≤ d.length ∧ d.length ≤ 8192 ∧ mayB k d = true))) ∨
    (k ≠ 1 ∧ k ≠ 2 ∧ k = 3 ∧ ((d.length ≠ 48 ∧ mayB k d = false) ∨ (d.length = 48 ∧ mayB k d = rdB (d.drop 32)))) ∨ (k ≠ 1 ∧ k ≠ 2 ∧ k ≠ 3 ∧ mayB k d = false) := by
  by_cases h1 : k = 1
  · exact .inl ⟨h1, by unfold mayB; rw [if_pos h1]⟩
  · by_cases h2 : k = 2
    · refine .inr (.inl ⟨h1, h2, ?_⟩)
      unfold mayB
      rw [if_neg h1, if_pos h2]
      simp only [decide_eq_true_iff, decide_eq_false_iff_not]
      omega
    · by_cases h3 : k = 3
      · refine .inr (.inr (.inl ⟨h1, h2, h3, ?_⟩))
        unfold mayB
        rw [if_neg h1, if_neg h2, if_pos h3]
        by_cases h : d.length = 48
        · exact .inr ⟨h, by rw [decide_eq_true h, Bool.true_and]⟩
        · exact .inl ⟨h, by rw [decide_eq_false h, Bool.false_and]⟩
      · exact .inr (.inr (.inr ⟨h1, h2, h3, by unfold mayB; rw [if_neg h1, if_neg h2, if_neg h3]⟩))
/-- b[p:], of bytes that are within. -/
theorem byt_tl {w : World} {a : Option Addr} {len cap p : Nat} {l : List UInt8} (h : Byt w (.slice a len cap) l) (hlen : len = l.length) (hp : p < len) :
    ∃ y, (∀ W : World, (Instr.sliceAt 22 (.slice a len cap) (some (.int .i64 (p : Int))) none none).run Try.prog W = .ok (.slice y (len - p) (cap - p)) W) ∧ Byt w (.slice y (len - p) (cap - p)) (l.drop p) := by
  subst hlen
  obtain ⟨a', cap', e, hlc, hcm, hc⟩ := h.open
  simp only [Value.slice.injEq] at e
  obtain ⟨rfl, _, rfl⟩ := e
  obtain ⟨b, off, rfl, _⟩ := hc 0 (by omega)
  refine ⟨if cap = p then some ⟨b, off, none⟩ else some ⟨b, off + p, none⟩, fun W => ?_, ?_⟩
  · obtain ⟨i, hi, hz0, hz1, hz2⟩ := info_parts infoB
    have b2 : (0 : Int) ≤ (p : Int) ∧ (p : Int) ≤ (l.length : Int) := by omega
    simp [Instr.sliceAt, Instr.slice, Instr.sliceBounds, Instr.sliceBound, run_underlying Try.underlying22, asIntOf, b2, sizeOf, typeInfo, hi, hz1, add0]
    try omega
  · refine Byt.of (by rw [List.length_drop]) (by omega) (by unfold maxLen at hcm ⊢; omega) fun i hi => ?_
    rw [List.length_drop] at hi
    obtain ⟨b', off', e, hcell⟩ := hc (p + i) (by omega)
    cases e
    refine ⟨b, off + p, by rw [if_neg (by omega)], ?_⟩
    rw [Nat.add_assoc, hcell]
    simp [List.getD]

set_option maxRecDepth 100000 in
set_option maxHeartbeats 1000000 in
theorem may_calls (k : Int) (v : Value) (d : List UInt8) (w : World) (hv : Byt w v d) (hl : d.length ≤ 1000000000) :
    Calls Try.prog 41 #[.int .u8 k, v] w fun e w' => e = .returned (.bool (mayB k d)) ∧ Below w.heap.size w w' := by
  have HV := Lib.hid hv
  obtain ⟨a, cap, rfl, h1, h2, _⟩ := hv.open
  unfold maxLen at h2
  clear hv
  obtain ⟨n, hn⟩ : ∃ n, Hid (n = d.length) := ⟨_, Lib.hid rfl⟩
  rw [← hn.out] at HV h1 ⊢
  have hw := may_ways k d
  rw [← hn.out] at hw
  obtain ⟨M, hM⟩ : ∃ M, Hid (M = mayB k d) := ⟨_, Lib.hid rfl⟩
  rw [← hM.out] at hw ⊢
  have hn9 : n ≤ 1000000000 := by rw [hn.out]; exact hl
  clear hl
  rcases hw with ⟨g1, e⟩ | ⟨g1, g2, ⟨q, e⟩ | ⟨q, q2, e⟩ | ⟨q, q2, e⟩⟩ | ⟨g1, g2, g3, ⟨q, e⟩ | ⟨q, e⟩⟩ | ⟨g1, g2, g3, e⟩
  · have t1 : (k == 1) = true := by simpa using g1
    have he := Lib.hid e
    clear e
    go_enter Try.func41, Try.ntmps41
    go_wp2
    go_ret
    refine ⟨?_, Below.refl _ _⟩
    rw [he.out]
    congr 2
    by_cases h : n = 32
    · subst h; rfl
    · rw [decide_eq_false h]; simp; omega
  · subst e
    have t0 : (k == 1) = false := by first | (simpa using g1) | (simp; omega)
    have t1 : (k == 2) = true := by first | (simpa using g2) | (simp; omega)
    have t2 : decide ((1 : Int) ≤ (n : Int)) = false := by first | (simpa using g3) | (simp; omega)
    go_enter Try.func41, Try.ntmps41
    go_wp2
    go_ret
    exact ⟨rfl, Below.refl _ _⟩
  · subst e
    have t0 : (k == 1) = false := by first | (simpa using g1) | (simp; omega)
    have t1 : (k == 2) = true := by first | (simpa using g2) | (simp; omega)
    have t2 : decide ((1 : Int) ≤ (n : Int)) = true := by first | (simpa using g3) | (simp; omega)
    have t3 : decide ((n : Int) ≤ 8192) = false := by first | (simpa using g4) | (simp; omega)
    go_enter Try.func41, Try.ntmps41
    go_wp2
    go_ret
    exact ⟨rfl, Below.refl _ _⟩
  · subst e
    have t0 : (k == 1) = false := by first | (simpa using g1) | (simp; omega)
    have t1 : (k == 2) = true := by first | (simpa using g2) | (simp; omega)
    have t2 : decide ((1 : Int) ≤ (n : Int)) = true := by first | (simpa using g3) | (simp; omega)
    have t3 : decide ((n : Int) ≤ 8192) = true := by first | (simpa using g4) | (simp; omega)
    go_enter Try.func41, Try.ntmps41
    go_wp2
    go_ret
    exact ⟨rfl, Below.refl _ _⟩
  · subst e
    have t0 : (k == 1) = false := by first | (simpa using g1) | (simp; omega)
    have t1 : (k == 2) = false := by first | (simpa using g2) | (simp; omega)
    have t2 : (k == 3) = true := by first | (simpa using g3) | (simp; omega)
    have t3 : ((n : Int) != 48) = true := by first | (simpa using g4) | (simp; omega)
    go_enter Try.func41, Try.ntmps41
    go_wp2
    go_ret
    exact ⟨rfl, Below.refl _ _⟩
  · have t1 : (k == 1) = false := by simpa using g1
    have t2 : (k == 2) = false := by simpa using g2
    have t3 : (k == 3) = true := by simpa using g3
    obtain ⟨y, hsl, HYs⟩ := byt_tl HV.out hn.out (p := 32) (by omega)
    rw [show ((32 : Nat) : Int) = 32 from rfl] at hsl
    have HY := Lib.hid HYs
    have t4 : ((n : Int) != 48) = false := by simp; omega
    have hq := Lib.hid q
    clear HYs q
    have hr := read_calls _ _ _ HY.out (by rw [List.length_drop, ← hn.out]; omega)
    have HR := Lib.hid hr
    clear hr
    have he := Lib.hid e
    clear e
    obtain ⟨⟨y0, mo, dd, hh, mi, se⟩, hT⟩ : ∃ T, Hid (T = rd (d.drop 32)) := ⟨_, Lib.hid rfl⟩
    obtain ⟨E, hE⟩ : ∃ E, Hid (E = rdE (d.drop 32)) := ⟨_, Lib.hid rfl⟩
    rw [← hT.out, ← hE.out] at HR
    unfold tmV at HR
    have t5 : (E == 0) = M := by
      rw [hE.out, he.out]
      unfold rdE
      cases rdB (d.drop 32) <;> rfl
    go_enter Try.func41, Try.ntmps41
    go_wp2_with fail
    refine HR.out.mono ?_
    rintro e w1 ⟨rfl, hb⟩
    have HB := Lib.hid hb
    clear hb
    go_wp2
    go_ret
    exact ⟨rfl, HB.out.alloc HB.out.size _⟩
  · subst e
    have t1 : (k == 1) = false := by simpa using g1
    have t2 : (k == 2) = false := by simpa using g2
    have t3 : (k == 3) = false := by simpa using g3
    go_enter Try.func41, Try.ntmps41
    go_wp2
    go_ret
    exact ⟨rfl, Below.refl _ _⟩

set_option maxRecDepth 100000 in
set_option maxHeartbeats 1000000 in
theorem refMay_calls (k : Int) (v : Value) (d : List UInt8) (w : World) (hv : Byt w v d) (hl : d.length ≤ 1000000000) :
    Calls Try.prog 35 #[.int .u8 k, v] w fun e w' => e = .returned (.bool (mayB k d)) ∧ Below w.heap.size w w' := by
  have HV := Lib.hid hv
  obtain ⟨a, cap, rfl, h1, h2, _⟩ := hv.open
  unfold maxLen at h2
  clear hv
  obtain ⟨n, hn⟩ : ∃ n, Hid (n = d.length) := ⟨_, Lib.hid rfl⟩
  rw [← hn.out] at HV h1 ⊢
  have hw := may_ways k d
  rw [← hn.out] at hw
  obtain ⟨M, hM⟩ : ∃ M, Hid (M = mayB k d) := ⟨_, Lib.hid rfl⟩
  rw [← hM.out] at hw ⊢
  have hn9 : n ≤ 1000000000 := by rw [hn.out]; exact hl
  clear hl
  rcases hw with ⟨g1, e⟩ | ⟨g1, g2, ⟨q, e⟩ | ⟨q, q2, e⟩ | ⟨q, q2, e⟩⟩ | ⟨g1, g2, g3, ⟨q, e⟩ | ⟨q, e⟩⟩ | ⟨g1, g2, g3, e⟩
  · have t1 : (k == 1) = true := by simpa using g1
    have he := Lib.hid e
    clear e
    go_enter Try.func35, Try.ntmps35
    go_wp2
    go_ret
    refine ⟨?_, Below.refl _ _⟩
    rw [he.out]
    congr 2
    by_cases h : n = 32
    · subst h; rfl
    · rw [decide_eq_false h]; simp; omega
  · subst e
    have t0 : (k == 1) = false := by first | (simpa using g1) | (simp; omega)
    have t1 : (k == 2) = true := by first | (simpa using g2) | (simp; omega)
    have t2 : decide ((1 : Int) ≤ (n : Int)) = false := by first | (simpa using g3) | (simp; omega)
    go_enter Try.func35, Try.ntmps35
    go_wp2
    go_ret
    exact ⟨rfl, Below.refl _ _⟩
  · subst e
    have t0 : (k == 1) = false := by first | (simpa using g1) | (simp; omega)
    have t1 : (k == 2) = true := by first | (simpa using g2) | (simp; omega)
    have t2 : decide ((1 : Int) ≤ (n : Int)) = true := by first | (simpa using g3) | (simp; omega)
    have t3 : decide ((n : Int) ≤ 8192) = false := by first | (simpa using g4) | (simp; omega)
    go_enter Try.func35, Try.ntmps35
    go_wp2
    go_ret
    exact ⟨rfl, Below.refl _ _⟩
  · subst e
    have t0 : (k == 1) = false := by first | (simpa using g1) | (simp; omega)
    have t1 : (k == 2) = true := by first | (simpa using g2) | (simp; omega)
    have t2 : decide ((1 : Int) ≤ (n : Int)) = true := by first | (simpa using g3) | (simp; omega)
    have t3 : decide ((n : Int) ≤ 8192) = true := by first | (simpa using g4) | (simp; omega)
    go_enter Try.func35, Try.ntmps35
    go_wp2
    go_ret
    exact ⟨rfl, Below.refl _ _⟩
  · subst e
    have t0 : (k == 1) = false := by first | (simpa using g1) | (simp; omega)
    have t1 : (k == 2) = false := by first | (simpa using g2) | (simp; omega)
    have t2 : (k == 3) = true := by first | (simpa using g3) | (simp; omega)
    have t3 : ((n : Int) != 48) = true := by first | (simpa using g4) | (simp; omega)
    go_enter Try.func35, Try.ntmps35
    go_wp2
    go_ret
    exact ⟨rfl, Below.refl _ _⟩
  · have t1 : (k == 1) = false := by simpa using g1
    have t2 : (k == 2) = false := by simpa using g2
    have t3 : (k == 3) = true := by simpa using g3
    obtain ⟨y, hsl, HYs⟩ := byt_tl HV.out hn.out (p := 32) (by omega)
    rw [show ((32 : Nat) : Int) = 32 from rfl] at hsl
    have HY := Lib.hid HYs
    have t4 : ((n : Int) != 48) = false := by simp; omega
    have hq := Lib.hid q
    clear HYs q
    have hr := refRead_calls _ _ _ HY.out
    have HR := Lib.hid hr
    clear hr
    have he := Lib.hid e
    clear e
    obtain ⟨⟨y0, mo, dd, hh, mi, se⟩, hT⟩ : ∃ T, Hid (T = rd (d.drop 32)) := ⟨_, Lib.hid rfl⟩
    obtain ⟨E, hE⟩ : ∃ E, Hid (E = rdE (d.drop 32)) := ⟨_, Lib.hid rfl⟩
    rw [← hT.out, ← hE.out] at HR
    unfold tmV at HR
    have t5 : (E == 0) = M := by
      rw [hE.out, he.out]
      unfold rdE
      cases rdB (d.drop 32) <;> rfl
    go_enter Try.func35, Try.ntmps35
    go_wp2_with fail
    refine HR.out.mono ?_
    rintro e w1 ⟨rfl, hb⟩
    have HB := Lib.hid hb
    clear hb
    go_wp2
    go_ret
    exact ⟨rfl, HB.out.alloc HB.out.size _⟩
  · subst e
    have t1 : (k == 1) = false := by simpa using g1
    have t2 : (k == 2) = false := by simpa using g2
    have t3 : (k == 3) = false := by simpa using g3
    go_enter Try.func35, Try.ntmps35
    go_wp2
    go_ret
    exact ⟨rfl, Below.refl _ _⟩
end Go.Proofs.Ytilanncobbdlfaa
