/-
  The contracts of the statements' large, copied and Same, and of option's end.
-/
import Derived.Test.YtbcocblamocobaaOptPlain
import Derived.Test.YtbcocblamocobaaRow
import Derived.Deep.RegionHeld3
import Derived.Outline
namespace Go.Proofs.Ytbcocblamocobaa
open Go Go.RowKit

theorem ret_bool {a b : Bool} (h : a = b) : Ending.returned (.bool a) = .returned (.bool b) := by rw [h]

/-- An option as a value. -/
def optV (a : Nat) (s : List UInt8) (p d : Value) : Value := .agg #[.int .u32 (a : Int), .string (sOf s), p, d]

/-- A slice that reads bytes, opened as far as a struct's cell wants it. -/
theorem Byt.shut {w : World} {v : Value} {l : List UInt8} (h : Byt w v l) : ∃ a cap, v = .slice a l.length cap ∧ l.length ≤ cap ∧ cap ≤ 9223372036854775807 := by
  obtain ⟨a, cap, e, h1, h2, _⟩ := h.open
  unfold maxLen at h2
  exact ⟨a, cap, e, h1, by omega⟩

def lgB (s d : List UInt8) : Bool := decide (16384 < s.length ∨ 65536 < d.length)

set_option maxHeartbeats 2000000 in
theorem large_calls (a : Nat) (s P D : List UInt8) (p d : Value) (w : World) (hp : Byt w p P) (hd : Byt w d D) (hs : s.length ≤ 9223372036854775807) :
    Calls Try.prog 9 #[optV a s p d] w fun e w' => e = .returned (.bool (lgB s D)) ∧ Below w.heap.size w w' := by
  obtain ⟨ap, cp, rfl, p1, p2⟩ := hp.shut
  obtain ⟨ad, cd, rfl, d1, d2⟩ := hd.shut
  clear hp hd
  obtain ⟨S, hS⟩ : ∃ S, Hid (S = sOf s) := ⟨_, Lib.hid rfl⟩
  have hsz : Hid (S.size = s.length) := Lib.hid (by rw [hS.out, sOf_size])
  have hw : (decide (16384 < S.size) = true ∧ Hid (lgB s D = true)) ∨ (decide (16384 < S.size) = false ∧ ((decide (65536 < D.length) = true ∧ Hid (lgB s D = true)) ∨ (decide (65536 < D.length) = false ∧ Hid (lgB s D = false)))) := by
    unfold Hid lgB
    rw [hsz.out]
    simp only [decide_eq_true_iff, decide_eq_false_iff_not]
    omega
  have hS2 : S.size ≤ 9223372036854775807 := by rw [hsz.out]; exact hs
  unfold optV
  rw [← hS.out]
  obtain ⟨m, hm⟩ : ∃ m, Hid (m = D.length) := ⟨_, Lib.hid rfl⟩
  rw [← hm.out] at hw d1 ⊢
  rcases hw with ⟨q1, hr⟩ | ⟨q1, ⟨q2, hr⟩ | ⟨q2, hr⟩⟩
  all_goals
    rw [hr.out]
    have q3 : decide ((16384 : Int) < (S.size : Int)) = decide (16384 < S.size) := by simp; omega
    have q4 : decide ((65536 : Int) < (m : Int)) = decide (65536 < m) := by simp; omega
    rw [q1] at q3
    (try rw [q2] at q4)
    go_enter Try.func9, Try.ntmps9
    go_wp2
    go_ret
    exact ⟨rfl, (Below.refl _ _).alloc (Nat.le_refl _) _⟩

/-- Two that are the same. -/
theorem same_calls (a : Nat) (s P D : List UInt8) (p d p2 d2 : Value) (w : World) (hp : Byt w p P) (hd : Byt w d D) (hp2 : Byt w p2 P) (hd2 : Byt w d2 D) :
    Calls Try.prog 15 #[optV a s p d, optV a s p2 d2] w fun e w' => e = .returned (.bool true) ∧ Below w.heap.size w w' := by
  have HP := Lib.hid hp
  have HD := Lib.hid hd
  have HP2 := Lib.hid hp2
  have HD2 := Lib.hid hd2
  obtain ⟨ap, cp, rfl, p1, p2⟩ := hp.shut
  obtain ⟨ad, cd, rfl, d1, d2⟩ := hd.shut
  obtain ⟨ap', cp', rfl, p1', p2'⟩ := hp2.shut
  obtain ⟨ad', cd', rfl, d1', d2'⟩ := hd2.shut
  clear hp hd hp2 hd2
  obtain ⟨S, hS⟩ : ∃ S, Hid (S = sOf s) := ⟨_, Lib.hid rfl⟩
  have HE1 : Hid (∀ W, Below w.heap.size w W → Calls Try.prog 14 #[.slice ap P.length cp, .slice ap' P.length cp'] W fun e w' => e = .returned (.bool true) ∧ W = w') := Lib.hid (fun W hb => by
    have := eqBytes_calls _ _ P P W (HP.out.below hb) (HP2.out.below hb)
    rw [decide_eq_true rfl] at this
    exact this)
  have HE2 : Hid (∀ W, Below w.heap.size w W → Calls Try.prog 14 #[.slice ad D.length cd, .slice ad' D.length cd'] W fun e w' => e = .returned (.bool true) ∧ W = w') := Lib.hid (fun W hb => by
    have := eqBytes_calls _ _ D D W (HD.out.below hb) (HD2.out.below hb)
    rw [decide_eq_true rfl] at this
    exact this)
  unfold optV
  rw [← hS.out]
  have HB := Lib.hid (((Below.refl w.heap.size w).alloc (Nat.le_refl _) (.cells #[.int .u32 (a : Int), .string S, .slice ap P.length cp, .slice ad D.length cd] 25)).alloc (by simp) (.cells #[.int .u32 (a : Int), .string S, .slice ap' P.length cp', .slice ad' D.length cd'] 25))
  go_enter Try.func15, Try.ntmps15
  go_wp2_with fail
  refine (HE1.out _ HB.out).mono ?_
  rintro e w1 ⟨rfl, rfl⟩
  go_wp2_with fail
  refine (HE2.out _ HB.out).mono ?_
  rintro e w1 ⟨rfl, rfl⟩
  go_wp2
  go_ret
  exact ⟨rfl, HB.out⟩

theorem own_shape {f : FuncId} {args : Array Value} (base : Nat) (l : List UInt8) (W : World) (h : Calls Try.prog f args W fun e w' => ∃ v', e = .returned v' ∧ OwnB w' base v' l ∧ Below W.heap.size W w') :
    Calls Try.prog f args W fun e w' => ∃ x c, e = .returned (.slice x l.length c) ∧ OwnB w' base (.slice x l.length c) l ∧ Below W.heap.size W w' :=
  h.mono fun e w' ⟨v', he, ho, hb⟩ => by
    obtain ⟨x, c, rfl, _, _⟩ := Own.shape ho
    exact ⟨x, c, he, ho, hb⟩

/-- An option in new memory. -/
theorem copied_calls (a : Nat) (s P D : List UInt8) (p d : Value) (w : World) (hp : Byt w p P) (hd : Byt w d D) (hP : P.length ≤ 1000000000000) (hD : D.length ≤ 1000000000000) :
    Calls Try.prog 11 #[optV a s p d] w fun e w' => ∃ p' d', e = .returned (optV a s p' d') ∧ OwnB w' w.heap.size p' P ∧ OwnB w' w.heap.size d' D ∧ (∀ k, ownB p' = some k → ownB d' ≠ some k) ∧ Below w.heap.size w w' := by
  have HP := Lib.hid hp
  have HD := Lib.hid hd
  obtain ⟨ap, cp, rfl, p1, p2⟩ := hp.shut
  obtain ⟨ad, cd, rfl, d1, d2⟩ := hd.shut
  clear hp hd
  obtain ⟨S, hS⟩ : ∃ S, Hid (S = sOf s) := ⟨_, Lib.hid rfl⟩
  unfold optV
  rw [← hS.out]
  go_enter Try.func11, Try.ntmps11
  have HC1 : Hid (∀ W, Below w.heap.size w W → Calls Try.prog 21 #[.slice ap P.length cp] W fun e w' => ∃ x c, e = .returned (.slice x P.length c) ∧ OwnB w' W.heap.size (.slice x P.length c) P ∧ Below W.heap.size W w') := Lib.hid (fun W hb => own_shape _ P W <| copyBytes_calls _ P W (HP.out.below hb) (by omega))
  have HC2 : Hid (∀ W, Below w.heap.size w W → Calls Try.prog 21 #[.slice ad D.length cd] W fun e w' => ∃ x c, e = .returned (.slice x D.length c) ∧ OwnB w' W.heap.size (.slice x D.length c) D ∧ Below W.heap.size W w') := Lib.hid (fun W hb => own_shape _ D W <| copyBytes_calls _ D W (HD.out.below hb) (by omega))
  have HB0 : Hid (Below w.heap.size w ((w.alloc (.cells #[.int .u32 (a : Int), .string S, .slice ap P.length cp, .slice ad D.length cd] 25)).alloc (.cells #[.int .u32 0, .string ByteArray.empty, .slice none 0 0, .slice none 0 0] 25))) := Lib.hid (((Below.refl _ _).alloc (Nat.le_refl _) _).alloc (by simp) _)
  have R0 := Lib.hid (RowAt.new (w.alloc (.cells #[.int .u32 (a : Int), .string S, .slice ap P.length cp, .slice ad D.length cd] 25)) #[.int .u32 0, .string ByteArray.empty, .slice none 0 0, .slice none 0 0] 25 (w.heap.size + 1) (by simp))
  go_wp2
  go_region_held3 (fun w' => w'.cell? ⟨w.heap.size, 0, none⟩ = some (.int .u32 (a : Int)) ∧ w'.cell? ⟨w.heap.size, 1, none⟩ = some (.string S) ∧ w'.cell? ⟨w.heap.size, 2, none⟩ = some (.slice ap P.length cp) ∧ w'.cell? ⟨w.heap.size, 3, none⟩ = some (.slice ad D.length cd)) (first | (refine ⟨?_, ?_, ?_, ?_⟩ <;> (first | go_keep | omega)) | go_keep)
    (first
      | (go_at_call 21; refine (HC1.out _ HB0.out.drew).mono ?_; rintro e w1 ⟨x1, c1, rfl, ho1, hb1⟩; have HB1 := Lib.hid (HB0.out.drew.trans (hb1.mono HB0.out.drew.size)); have R1 := Lib.hid (R0.out.drew.below hb1); have HO1 := Lib.hid ho1; have hz1 : w.heap.size + 1 < w1.heap.size := R1.out.lt; have hcc1 : ∀ o, w1.cell? ⟨w.heap.size, o, none⟩ = _ := (fun o => hb1.cell (p := ⟨w.heap.size, o, none⟩) (by first | omega | (simp; done) | (simp; omega))); clear ho1 hb1)
      | (go_at_call 21; refine (HC2.out _ HB1.out).mono ?_; rintro e w2 ⟨x2, c2, rfl, ho2, hb2⟩; have HB2 := Lib.hid (HB1.out.trans (hb2.mono HB1.out.size)); have R2 := Lib.hid (R1.out.below hb2); have HO2 := Lib.hid ho2; have HO12 := Lib.hid (HO1.out.below hb2); have hcc2 : ∀ o, w2.cell? ⟨w.heap.size, o, none⟩ = w1.cell? ⟨w.heap.size, o, none⟩ := (fun o => hb2.cell (p := ⟨w.heap.size, o, none⟩) (by show w.heap.size < _; omega)); have hz2 : w.heap.size + 1 < w2.heap.size := R2.out.lt; have z0 := R2.out.cell 0 _ rfl; have z1 := R2.out.cell 1 _ rfl; have z2 := R2.out.cell 2 _ rfl; have z3 := R2.out.cell 3 _ rfl; have zf := R2.out.free; clear ho2 hb2))
  have CH := Lib.hid (((((Chg.refl [w.heap.size + 1] w2).setCell (i := 0) (List.mem_singleton.2 rfl) (.int .u32 (a : Int))).setCell (i := 1) (List.mem_singleton.2 rfl) (.string S)).setCell (i := 2) (List.mem_singleton.2 rfl) (.slice x1 P.length c1)).setCell (i := 3) (List.mem_singleton.2 rfl) (.slice x2 D.length c2))
  go_wp2
  refine bodyPost_ret (v := .agg #[.int .u32 (a : Int), .string S, .slice x1 P.length c1, .slice x2 D.length c2]) ?_ rfl ?_
  · simp [results, Try.results11, go_sem, z0, z1, z2, z3]
  · refine ⟨_, _, rfl, ?_, ?_, ?_, ?_⟩
    · exact (HO12.out.chg' CH.out (fun x hx => by rw [List.mem_singleton.1 hx]; first | omega | (simp; done) | (simp; omega))).mono (by first | omega | (simp; done) | (simp; omega))
    · exact (HO2.out.chg' CH.out (fun x hx => by rw [List.mem_singleton.1 hx]; exact hz1)).mono (by omega)
    · intro k hk e
      have h1 := (Own.lt HO1.out k hk).2
      have h2 := (Own.lt HO2.out k e).1
      omega
    · exact Below.andChg HB2.out CH.out HB2.out.size (fun x hx => by rw [List.mem_singleton.1 hx]; omega)

/-- Where the label ends. -/
theorem end_calls (v : Value) (l : List UInt8) (w : World) (hv : Byt w v l) (hl : l.length ≤ 1000000000000) :
    Calls Try.prog 27 #[v] w fun e w' => ((∃ k, endK l = some k ∧ e = .returned (.tuple #[.int .i64 ((6 + 2 * k : Nat) : Int), .bool true])) ∨ (endK l = none ∧ e = .returned (.tuple #[.int .i64 0, .bool false]))) ∧ w = w' := by
  obtain ⟨a, cap, rfl, h1, h2, hc⟩ := hv.open
  unfold maxLen at h2
  have HC := Lib.hid hc
  have HZ := Lib.hid (zp_iff l)
  have HS := Lib.hid (endK_some l)
  have HN := Lib.hid (endK_none l)
  obtain ⟨L, hL⟩ : ∃ L, Hid (L = l.length) := ⟨_, Lib.hid rfl⟩
  rw [← hL.out] at h1 hl HZ ⊢
  clear hc hv
  go_enter Try.func27, Try.ntmps27
  go_wp2
  go_loop [4] (fun i => ∃ k : Nat, 2 * k ≤ L ∧ i = .int .i64 ((6 + 2 * k : Nat) : Int) ∧ Hid (∀ j, j < k → zp l j = false)) (fun i => L + 8 - (intOf i).toNat)
  case atStart => exact ⟨0, by omega, rfl, Lib.hid (fun j hj => by omega)⟩
  case round =>
    obtain ⟨k, hk, rfl, hno⟩ := hrel
    by_cases hlt : 7 + 2 * k < L
    · obtain ⟨b, off, rfl, c0⟩ := HC.out (6 + 2 * k) (by have := hL.out; omega)
      obtain ⟨b', off', e', c1⟩ := HC.out (7 + 2 * k) (by have := hL.out; omega)
      cases e'
      have e7 : 7 + 2 * k = 6 + 2 * k + 1 := by omega
      have b0 := (l.getD (6 + 2 * k) 0).toNat_lt
      have b1 := (l.getD (7 + 2 * k) 0).toNat_lt
      have hzw : (((((l.getD (6 + 2 * k) 0).toNat : Int) == 0) = false) ∧ Hid (zp l k = false)) ∨ (((((l.getD (6 + 2 * k) 0).toNat : Int) == 0) = true) ∧ (((((l.getD (7 + 2 * k) 0).toNat : Int) == 0) = false ∧ Hid (zp l k = false)) ∨ ((((l.getD (7 + 2 * k) 0).toNat : Int) == 0) = true ∧ Hid (zp l k = true)))) := by
        have e0 : ∀ c : UInt8, c = 0 ↔ c.toNat = 0 := fun c => ⟨fun h => by rw [h]; rfl, fun h => UInt8.toNat_inj.1 h⟩
        unfold Hid
        simp only [beq_iff_eq, beq_eq_false_iff_ne]
        cases hz : zp l k with
        | true =>
          have := (HZ.out k).1 hz
          rw [e0, e0] at this
          exact .inr ⟨by omega, .inr ⟨by omega, rfl⟩⟩
        | false =>
          have hn : ¬ (7 + 2 * k < L ∧ l.getD (6 + 2 * k) 0 = 0 ∧ l.getD (7 + 2 * k) 0 = 0) := fun h => by rw [(HZ.out k).2 h] at hz; cases hz
          rw [e0, e0] at hn
          by_cases h0 : (l.getD (6 + 2 * k) 0).toNat = 0
          · exact .inr ⟨by omega, .inl ⟨by omega, rfl⟩⟩
          · exact .inl ⟨by omega, rfl⟩
      rw [e7] at c1
      obtain ⟨x, hx⟩ : ∃ x : Int, Hid (x = ((l.getD (6 + 2 * k) 0).toNat : Int)) := ⟨_, Lib.hid rfl⟩
      obtain ⟨y, hy⟩ : ∃ x : Int, Hid (x = ((l.getD (7 + 2 * k) 0).toNat : Int)) := ⟨_, Lib.hid rfl⟩
      rw [← hx.out] at c0 hzw
      rw [← hy.out] at hzw
      rw [← e7] at c1
      rw [← hy.out, e7, ← Nat.add_assoc] at c1
      obtain ⟨q, hq⟩ : ∃ q, Hid (q = 6 + 2 * k) := ⟨_, Lib.hid rfl⟩
      have hqL : q + 1 < L := by have := hq.out; omega
      have HR : Hid (6 + 2 * (k + 1) = q + 2) := Lib.hid (by rw [hq.out]; omega)
      have hkk : 2 * (k + 1) ≤ L := by omega
      have HNX : Hid (zp l k = false → ∀ j, j < k + 1 → zp l j = false) := Lib.hid (fun h j hj => by
        by_cases e : j = k
        · rw [e]; exact h
        · exact hno.out j (by omega))
      have HSK : Hid (zp l k = true → endK l = some k) := Lib.hid (fun h => (HS.out k).2 ⟨h, hno.out⟩)
      have HQ : Hid (L + 8 - (q + 2) < L + 8 - q) := Lib.hid (by omega)
      rw [← hq.out] at c0 ⊢
      rw [show off + (6 + 2 * k) + 1 = off + (q + 1) by rw [← hq.out, Nat.add_assoc]] at c1
      clear e7 b0 b1 hlt
      rcases hzw with ⟨q1, hz⟩ | ⟨q1, ⟨q2, hz⟩ | ⟨q2, hz⟩⟩
      · have HX := Lib.hid (HNX.out hz.out)
        clear hz
        go_wp2
        go_round
        case rel => exact ⟨k + 1, hkk, by rw [HR.out]; go_num, HX⟩
        case measure => simp [intOf]; omega
      · have HX := Lib.hid (HNX.out hz.out)
        clear hz
        go_wp2
        go_round
        case rel => exact ⟨k + 1, hkk, by rw [HR.out]; go_num, HX⟩
        case measure => simp [intOf]; omega
      · have HX := Lib.hid (HSK.out hz.out)
        clear hz
        go_wp2
        go_ret2
        exact ⟨.inl ⟨k, HX.out, congrArg (fun z : Nat => Ending.returned (.tuple #[.int .i64 (z : Int), .bool true])) hq.out⟩, rfl⟩
    · have HX : Hid (endK l = none) := Lib.hid (HN.out.2 (fun j => by
        by_cases hj : j < k
        · exact hno.out j hj
        · cases hz : zp l j with
          | false => rfl
          | true => have := ((HZ.out j).1 hz).1; omega))
      go_wp2
      go_ret2
      exact ⟨.inr ⟨HX.out, rfl⟩, rfl⟩
end Go.Proofs.Ytbcocblamocobaa
