/-
  The contracts of the statements' same and twin, of descr's Write and of the document's own.
-/
import Derived.Test.YtemojckmnlgkdaaDsPlain
import Derived.Test.YtemojckmnlgkdaaConcat
import Derived.Test.YtemojckmnlgkdaaRow
import Derived.Test.YtemojckmnlgkdaaStamp2
import Derived.Test.YtemojckmnlgkdaaStamp7
import Derived.Lib.SlBytesConst
namespace Go.Proofs.Ytemojckmnlgkdaa
open Go Go.RowKit
set_option linter.unusedVariables false

/-- A new row of slices. -/
theorem Byts.made (w : World) (us : List Value) (ls : List (List UInt8)) (e : TypeId) (n b : Nat) (hb : b = w.heap.size) (hn : n = ls.length) (h : us.length = ls.length) (h1 : ∀ i, i < ls.length → Byt w (us.getD i (.slice none 0 0)) (ls.getD i [])) (hl : n ≤ 1000) :
    Byts (w.alloc (.cells us.toArray e)) (.slice (some ⟨b, 0, none⟩) n n) ls := by
  subst hn hb
  refine ⟨some ⟨w.heap.size, 0, none⟩, ls.length, rfl, Nat.le_refl _, by unfold maxLen; omega, fun i hi => ⟨w.heap.size, 0, us.getD i (.slice none 0 0), rfl, ?_, (h1 i hi).below ((Below.refl _ _).alloc (Nat.le_refl _) _)⟩⟩
  rw [Nat.zero_add, cell_of_row _ w.heap.size i _ e (0, 0) (heap_alloc_new w _)]
  have : i < us.length := by omega
  simp [List.getD, this]
theorem Byts.made4 (w : World) (u0 u1 u2 u3 : Value) (l0 l1 l2 l3 : List UInt8) (e : TypeId) (b : Nat) (hb : b = w.heap.size) (h0 : Byt w u0 l0) (h1 : Byt w u1 l1) (h2 : Byt w u2 l2) (h3 : Byt w u3 l3) :
    Byts (w.alloc (.cells #[u0, u1, u2, u3] e)) (.slice (some ⟨b, 0, none⟩) 4 4) [l0, l1, l2, l3] :=
  Byts.made w [u0, u1, u2, u3] [l0, l1, l2, l3] e 4 b hb rfl rfl (fun i hi => by
    have : i = 0 ∨ i = 1 ∨ i = 2 ∨ i = 3 := by simp at hi; omega
    rcases this with rfl | rfl | rfl | rfl <;> assumption) (by omega)
theorem Byts.made3 (w : World) (u0 u1 u2 : Value) (l0 l1 l2 : List UInt8) (e : TypeId) (b : Nat) (hb : b = w.heap.size) (h0 : Byt w u0 l0) (h1 : Byt w u1 l1) (h2 : Byt w u2 l2) :
    Byts (w.alloc (.cells #[u0, u1, u2] e)) (.slice (some ⟨b, 0, none⟩) 3 3) [l0, l1, l2] :=
  Byts.made w [u0, u1, u2] [l0, l1, l2] e 3 b hb rfl rfl (fun i hi => by
    have : i = 0 ∨ i = 1 ∨ i = 2 := by simp at hi; omega
    rcases this with rfl | rfl | rfl <;> assumption) (by omega)
/-- A slice that reads bytes, opened as far as a struct's cell wants it. -/
theorem Byt.shut {w : World} {v : Value} {l : List UInt8} (h : Byt w v l) : ∃ a cap, v = .slice a l.length cap ∧ l.length ≤ cap ∧ cap ≤ 9223372036854775807 := by
  obtain ⟨a, cap, e, h1, h2, _⟩ := h.open
  unfold maxLen at h2
  exact ⟨a, cap, e, h1, by omega⟩
theorem own_shape {f : FuncId} {args : Array Value} (base : Nat) (l : List UInt8) (W : World) (h : Calls Try.prog f args W fun e w' => ∃ v', e = .returned v' ∧ OwnB w' base v' l ∧ Below W.heap.size W w') :
    Calls Try.prog f args W fun e w' => ∃ x c, e = .returned (.slice x l.length c) ∧ OwnB w' base (.slice x l.length c) l ∧ Below W.heap.size W w' :=
  h.mono fun e w' ⟨v', he, ho, hb⟩ => by
    obtain ⟨x, c, rfl, _, _⟩ := Own.shape ho
    exact ⟨x, c, he, ho, hb⟩

set_option maxHeartbeats 400000 in
theorem same_calls (v1 v2 : Value) (l1 l2 : List UInt8) (w : World) (h1 : Byt w v1 l1) (h2 : Byt w v2 l2) :
    Calls Try.prog 11 #[v1, v2] w fun e w' => e = .returned (.bool (decide (l1 = l2))) ∧ w = w' := by
  have c1 := run_tostring (P := Try.prog) h1 22 9 5 Try.underlying22 Try.underlying5 Try.underlying9
  have c2 := run_tostring (P := Try.prog) h2 22 9 5 Try.underlying22 Try.underlying5 Try.underlying9
  go_enter Try.func11, Try.ntmps11
  go_wp2
  go_ret
  exact ⟨by simp [sOf_beq], rfl⟩

set_option maxHeartbeats 400000 in
theorem twin_calls (v : Value) (l : List UInt8) (w : World) (h : Byt w v l) (hl : l.length ≤ 140737488355328) :
    Calls Try.prog 8 #[v] w fun e w' => ∃ v', e = .returned v' ∧ OwnB w' w.heap.size v' l ∧ Below w.heap.size w w' := by
  have HB0 := Lib.hid ((Below.refl w.heap.size w).alloc (Nat.le_refl _) (.cells #[] 5))
  have HH := Lib.hid (h.below ((Below.refl w.heap.size w).alloc (Nat.le_refl _) (.cells #[] 5)))
  clear h
  go_enter Try.func8, Try.ntmps8
  go_wp2_with (at_builtin; refine wpList_append_byt rfl _ _ rfl w.heap.size (.slice (some ⟨w.heap.size, 0, none⟩) 0 0) [] rfl (OwnB.empty _ _ _) v l rfl HH.out (by simpa using hl) HB0.out.size ?_; intro v' w' hown hg _)
  go_ret
  exact ⟨v', rfl, by simpa using hown, HB0.out.grown hg HB0.out.size (fun k hk => by simp [ownB] at hk)⟩

/-- Is it zero? Of a moment that is right: no. -/
theorem tm_right (t : Tm) (h : rightB t = true) : eqT t tm0 = false := by
  cases e : eqT t tm0 with
  | false => rfl
  | true => rw [(eqT_iff t tm0).1 e] at h; exact absurd h (by decide)
theorem wr_ways (t : Tm) (n : Nat) : (rightB t = false ∧ dsB t n = false) ∨ (rightB t = true ∧ eqT t tm0 = false ∧ ((decide ((n : Int) < 1) = true ∧ dsB t n = false) ∨ (decide ((n : Int) < 1) = false ∧ ((decide ((65536 : Int) < (n : Int)) = true ∧ dsB t n = false) ∨ (decide ((65536 : Int) < (n : Int)) = false ∧ dsB t n = true))))) := by
  unfold dsB
  cases h : rightB t with
  | false => exact .inl ⟨rfl, rfl⟩
  | true =>
    refine .inr ⟨rfl, tm_right t h, ?_⟩
    simp only [decide_eq_true_iff, decide_eq_false_iff_not, Bool.true_and]
    omega
theorem neq0 (y mo d h mi s : Int) (hz : eqT ⟨y, mo, d, h, mi, s⟩ tm0 = false) (W : World) : (binOp .eql 25 (.agg #[.int .u16 y, .int .u8 mo, .int .u8 d, .int .u8 h, .int .u8 mi, .int .u8 s]) (.agg #[.int .u16 0, .int .u8 0, .int .u8 0, .int .u8 0, .int .u8 0, .int .u8 0])).run Try.prog W = .ok (.bool false) W := by
  have := run_tm_eq ⟨y, mo, d, h, mi, s⟩ tm0 W
  rw [hz] at this
  exact this

/-- What Write gives. -/
def wrR (t : Tm) (b d : List UInt8) : List UInt8 := if dsB t b.length then dsW t b d else []
def wrE (t : Tm) (n : Nat) : Int := if dsB t n then 0 else 1
theorem wr_no (t : Tm) (b d : List UInt8) (h : dsB t b.length = false) : wrR t b d = [] ∧ wrE t b.length = 1 := by unfold wrR wrE; rw [h]; exact ⟨rfl, rfl⟩
theorem wr_yes (t : Tm) (b d : List UInt8) (h : dsB t b.length = true) : wrR t b d = dsW t b d ∧ wrE t b.length = 0 := by unfold wrR wrE; rw [h]; exact ⟨rfl, rfl⟩

set_option maxRecDepth 100000 in
set_option maxHeartbeats 4000000 in
theorem dsWrite_calls (t : Tm) (ht : t.Fit) (p q : Value) (b d : List UInt8) (w : World) (hp : Byt w p b) (hq : Byt w q d) (hb : b.length ≤ 100000000) (hd : d.length ≤ 100000000) :
    Calls Try.prog 12 #[tmV t, p, q] w fun e w' => ∃ v', e = .returned (.tuple #[v', .int .i64 (wrE t b.length)]) ∧ OwnB w' w.heap.size v' (wrR t b d) ∧ Below w.heap.size w w' := by
  have hw := wr_ways t b.length
  have HNO := Lib.hid (wr_no t b d)
  have HYES := Lib.hid (wr_yes t b d)
  have HR := Lib.hid (fun W => right_calls t W ht)
  have HW := Lib.hid (fun W => write_calls t W ht)
  have HL := Lib.hid (wrL_length t)
  have HF : Hid (dsW t b d = (wrL t ++ lowN (24 + b.length) 4) ++ (ahd ++ (b ++ d))) := Lib.hid (by unfold dsW; rw [List.append_assoc])
  have HP := Lib.hid hp
  have HQ := Lib.hid hq
  obtain ⟨ap, cp, rfl, p1, p2⟩ := hp.shut
  obtain ⟨ad, cd, rfl, d1, d2⟩ := hq.shut
  clear hp hq
  obtain ⟨nb, hnb⟩ : ∃ n, Hid (n = b.length) := ⟨_, Lib.hid rfl⟩
  obtain ⟨nd, hnd⟩ : ∃ n, Hid (n = d.length) := ⟨_, Lib.hid rfl⟩
  rw [← hnb.out] at hw HNO HYES HF p1 hb HP ⊢
  rw [← hnd.out] at d1 hd HQ ⊢
  obtain ⟨LW, hLW⟩ : ∃ L, Hid (L = wrL t) := ⟨_, Lib.hid rfl⟩
  rw [← hLW.out] at HW HL HF
  obtain ⟨R, hR⟩ : ∃ L, Hid (L = wrR t b d) := ⟨_, Lib.hid rfl⟩
  obtain ⟨F, hF⟩ : ∃ L, Hid (L = dsW t b d) := ⟨_, Lib.hid rfl⟩
  obtain ⟨E, hE⟩ : ∃ L, Hid (L = wrE t nb) := ⟨_, Lib.hid rfl⟩
  rw [← hR.out, ← hE.out] at HNO HYES
  rw [← hF.out] at HF HYES
  rw [← hR.out, ← hE.out]
  obtain ⟨y, mo, dd, h, mi, s⟩ := t
  unfold tmV at HR HW ⊢
  simp only at HR HW ⊢
  have HB0 := Lib.hid ((Below.refl w.heap.size w).alloc (Nat.le_refl _) (.cells #[.int .u16 y, .int .u8 mo, .int .u8 dd, .int .u8 h, .int .u8 mi, .int .u8 s] 25))
  have R0 := Lib.hid (RowAt.new w #[.int .u16 y, .int .u8 mo, .int .u8 dd, .int .u8 h, .int .u8 mi, .int .u8 s] 25 w.heap.size rfl)
  rcases hw with ⟨q1, hx⟩ | ⟨q1, q0, ⟨q2, hx⟩ | ⟨q2, ⟨q3, hx⟩ | ⟨q3, hx⟩⟩⟩
  · have hr := HNO.out hx
    rw [hr.1, hr.2]
    clear hr hx
    rw [q1] at HR
    clear q1
    go_enter Try.func12, Try.ntmps12
    go_wp2_with fail
    refine (HR.out _).mono ?_
    rintro e w2 ⟨rfl, hb⟩
    have HB2 := Lib.hid (HB0.out.trans (hb.mono HB0.out.size))
    clear hb
    go_wp2
    go_ret2
    exact ⟨_, rfl, OwnB.empty _ _ _, HB2.out⟩
  all_goals
    rw [q1] at HR
    have heq := neq0 y mo dd h mi s q0
    clear q1 q0
    have hr := Lib.hid hx
    clear hx
    go_enter Try.func12, Try.ntmps12
    go_wp2_with fail
    refine (HR.out _).mono ?_
    rintro e w2 ⟨rfl, hb⟩
    have HB2 := Lib.hid (HB0.out.trans (hb.mono HB0.out.size))
    have R2 := Lib.hid (R0.out.below hb)
    have k0 := R2.out.cell 0 _ rfl
    have k1 := R2.out.cell 1 _ rfl
    have k2 := R2.out.cell 2 _ rfl
    have k3 := R2.out.cell 3 _ rfl
    have k4 := R2.out.cell 4 _ rfl
    have k5 := R2.out.cell 5 _ rfl
    clear hb
  · go_wp2
    go_ret2
    have hr := HNO.out hr.out
    rw [hr.1, hr.2]
    exact ⟨_, rfl, OwnB.empty _ _ _, HB2.out⟩
  · go_wp2
    go_ret2
    have hr := HNO.out hr.out
    rw [hr.1, hr.2]
    exact ⟨_, rfl, OwnB.empty _ _ _, HB2.out⟩
  · have HPUT : Hid (∀ v W, Byt W v LW → Calls Try.prog 25 #[v, .int .u64 (24 + (nb : Int)), .int .i64 4] W fun e w' => ∃ x c, e = .returned (.slice x 20 c) ∧ OwnB w' W.heap.size (.slice x 20 c) (LW ++ lowN (24 + nb) 4) ∧ Below W.heap.size W w') := Lib.hid (fun v W h => by
      have := put_calls v LW (24 + nb) 4 W h (by omega) (by rw [HL.out]; decide)
      unfold putL at this
      rw [show sizedB 4 = true by decide, if_pos rfl] at this
      have e : (LW ++ lowN (24 + nb) (4 : Int).toNat).length = 20 := by rw [List.length_append, lowN_length, HL.out]; rfl
      have := own_shape _ _ _ this
      rw [e] at this
      exact this)
    have m1 : IntKind.u64.wrap (24 + (nb : Int)) = 24 + (nb : Int) := IntWalk.u64_in _ (by omega)
    have HLEN := Lib.hid (show sumL [LW ++ lowN (24 + nb) 4, ahd, b, d] ≤ 1000000000 by
      have e1 := HL.out
      have e2 := hnb.out
      have e3 := hnd.out
      simp only [sumL, List.map_cons, List.map_nil, List.sum_cons, List.sum_nil, List.length_append, lowN_length, ahd_length]
      omega)
    obtain ⟨F4, hF4⟩ : ∃ F, Hid (F = LW ++ lowN (24 + nb) 4) := ⟨_, Lib.hid rfl⟩
    rw [← hF4.out] at HPUT HLEN HF
    go_wp2_with fail
    refine (HW.out _).mono ?_
    rintro e w3 ⟨v3, rfl, ho, hb⟩
    have HB3 := Lib.hid (HB2.out.trans (hb.mono HB2.out.size))
    have HO3 := Lib.hid ho.byt
    clear hb ho k0 k1 k2 k3 k4 k5
    go_wp2_with fail
    refine (HPUT.out _ _ HO3.out).mono ?_
    rintro e w4 ⟨x4, c4, rfl, ho, hb⟩
    have HB4 := Lib.hid (HB3.out.trans (hb.mono HB3.out.size))
    have HO4 := Lib.hid ho.byt
    clear hb ho
    have kc : ∀ W : World, (convert 22 22 (.slice (some ⟨W.heap.size, 0, none⟩) 20 20)).run Try.prog (W.alloc (.cells #[.int .u8 0, .int .u8 2, .int .u8 241, .int .u8 14, .int .u8 157, .int .u8 210, .int .u8 175, .int .u8 74, .int .u8 223, .int .u8 104, .int .u8 238, .int .u8 73, .int .u8 138, .int .u8 169, .int .u8 52, .int .u8 125, .int .u8 55, .int .u8 86, .int .u8 101, .int .u8 167] 5)) = .ok (.slice (some ⟨W.heap.size, 0, none⟩) 20 20) (W.alloc (.cells #[.int .u8 0, .int .u8 2, .int .u8 241, .int .u8 14, .int .u8 157, .int .u8 210, .int .u8 175, .int .u8 74, .int .u8 223, .int .u8 104, .int .u8 238, .int .u8 73, .int .u8 138, .int .u8 169, .int .u8 52, .int .u8 125, .int .u8 55, .int .u8 86, .int .u8 101, .int .u8 167] 5 (20, 21))) := fun W => Lib.run_convert_bytes_const (P := Try.prog) W 22 5 _ 20 20 Try.underlying22 Try.underlying5
    have hba := Lib.hid ((Below.refl w4.heap.size w4).alloc (Nat.le_refl _) (.cells #[.int .u8 0, .int .u8 2, .int .u8 241, .int .u8 14, .int .u8 157, .int .u8 210, .int .u8 175, .int .u8 74, .int .u8 223, .int .u8 104, .int .u8 238, .int .u8 73, .int .u8 138, .int .u8 169, .int .u8 52, .int .u8 125, .int .u8 55, .int .u8 86, .int .u8 101, .int .u8 167] 5 (20, 21)))
    have HA := Lib.hid (Byt.made w4 ahd #[.int .u8 0, .int .u8 2, .int .u8 241, .int .u8 14, .int .u8 157, .int .u8 210, .int .u8 175, .int .u8 74, .int .u8 223, .int .u8 104, .int .u8 238, .int .u8 73, .int .u8 138, .int .u8 169, .int .u8 52, .int .u8 125, .int .u8 55, .int .u8 86, .int .u8 101, .int .u8 167] 5 (20, 21) rfl (by unfold maxLen; decide))
    rw [ahd_length] at HA
    have HBS := Lib.hid (Byts.made4 (w4.alloc (.cells #[.int .u8 0, .int .u8 2, .int .u8 241, .int .u8 14, .int .u8 157, .int .u8 210, .int .u8 175, .int .u8 74, .int .u8 223, .int .u8 104, .int .u8 238, .int .u8 73, .int .u8 138, .int .u8 169, .int .u8 52, .int .u8 125, .int .u8 55, .int .u8 86, .int .u8 101, .int .u8 167] 5 (20, 21))) _ _ _ _ F4 ahd b d 22 (w4.heap.size + 1) (by simp) (HO4.out.below hba.out) HA.out ((HP.out.below HB4.out).below hba.out) ((HQ.out.below HB4.out).below hba.out))
    go_wp2_with fail
    refine (concat_calls _ [F4, ahd, b, d] _ HBS.out (by simp) HLEN.out).mono ?_
    rintro e w5 ⟨v5, rfl, ho, hb⟩
    have HO5 := Lib.hid ho
    have HB5 := Lib.hid (((HB4.out.alloc HB4.out.size _).alloc (by have := HB4.out.size; simp; omega) _).trans (hb.mono (by have := HB4.out.size; simp; omega)))
    clear ho hb
    go_wp2
    go_ret2
    have hr := HYES.out hr.out
    have e : [F4, ahd, b, d].flatten = F := by rw [HF.out]; simp
    rw [e] at HO5
    rw [hr.1, hr.2]
    exact ⟨_, rfl, HO5.out.mono (by have := HB4.out.size; simp; omega), HB5.out⟩
end Go.Proofs.Ytemojckmnlgkdaa
