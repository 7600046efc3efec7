/-
  The walk of the law OptionReads.
-/
import Derived.Test.YtbcocblamocobaaOptForms
import Derived.Test.YtbcocblamocobaaSit
namespace Go.Proofs.Ytbcocblamocobaa
open Go Go.RowKit
set_option linter.unusedVariables false

/-- A call that makes an option's two slices. -/
theorem Sit.born2 {w0 w w' : World} {rs : List (Value × List UInt8)} {vs : List Value} {ls : List (List UInt8)} (S : Sit w0 w rs vs ls) (hb : Below w.heap.size w w') {p d : Value} {l1 l2 : List UInt8} (h1 : OwnB w' w.heap.size p l1) (h2 : OwnB w' w.heap.size d l2) (hne : ∀ k, ownB p = some k → ownB d ≠ some k) :
    Sit w0 w' rs (d :: p :: vs) (l2 :: l1 :: ls) :=
  (S.born hb h1).push (h2.mono S.bel.size) fun i hi k hk e => by
    cases i with
    | zero => exact hne k hk e
    | succ i =>
      have h3 := (Own.lt (S.own i (by simpa using hi)) k hk).2
      have h4 := (Own.lt h2 k e).1
      omega

theorem kept_any (base g n cap : Nat) (v : Value) (l : List UInt8) (w : World) (hn : n = l.length) (h : OwnB w base (.slice (some ⟨g, 0, none⟩) (n + 7) cap) (l ++ room)) (hv : Byt w v l) :
    Calls Try.prog 20 #[.slice (some ⟨g, 0, none⟩) n cap, v] w fun e w' => e = .returned (.bool true) ∧ w = w' := by
  have := kept_calls base g n cap v l l w hn h hv
  rw [decide_eq_true rfl] at this
  exact this
theorem rdR_len (l : List UInt8) : (rdR l).p.length ≤ l.length ∧ (rdR l).d.length ≤ l.length := by
  cases h : rdO l with
  | none => have e : rdR l = opt0 := by unfold rdR; rw [h]; rfl
            rw [e]; exact ⟨Nat.zero_le _, Nat.zero_le _⟩
  | some q =>
    rw [(res_some l q h).1]
    have h1 := wr_rd l q h
    have h2 := wrO_length q
    rw [h1.2.1] at h2
    omega
/-- What Read gives of bytes. -/
theorem read_form {f : FuncId} {l : List UInt8} {v : Value} {w : World} (h : Calls Try.prog f #[v] w fun e w' => ∃ p' d', e = .returned (.tuple #[optV (rdR l).a (rdR l).s p' d', .int .i64 (rdE l)]) ∧ OwnB w' w.heap.size p' (rdR l).p ∧ OwnB w' w.heap.size d' (rdR l).d ∧ (∀ j, ownB p' = some j → ownB d' ≠ some j) ∧ Below w.heap.size w w')
    (q : Opt) (hq : q = rdR l) (E : Int) (hE : E = rdE l) (S : ByteArray) (hS : S = sOf q.s) (n m : Nat) (hn : n = q.p.length) (hm : m = q.d.length) :
    Calls Try.prog f #[v] w fun e w' => ∃ x1 c1 x2 c2, e = .returned (.tuple #[.agg #[.int .u32 (q.a : Int), .string S, .slice x1 n c1, .slice x2 m c2], .int .i64 E]) ∧ OwnB w' w.heap.size (.slice x1 n c1) q.p ∧ OwnB w' w.heap.size (.slice x2 m c2) q.d ∧ (∀ j, ownB (.slice x1 n c1) = some j → ownB (.slice x2 m c2) ≠ some j) ∧ Below w.heap.size w w' := by
  subst hS hn hm hE
  rw [hq]
  exact read_shape h
theorem same_form (a : Nat) (s P D : List UInt8) (S : ByteArray) (hS : S = sOf s) (p d p2 d2 : Value) (w : World) (hp : Byt w p P) (hd : Byt w d D) (hp2 : Byt w p2 P) (hd2 : Byt w d2 D) :
    Calls Try.prog 15 #[.agg #[.int .u32 (a : Int), .string S, p, d], .agg #[.int .u32 (a : Int), .string S, p2, d2]] w fun e w' => e = .returned (.bool true) ∧ Below w.heap.size w w' := by
  subst hS
  exact same_calls a s P D p d p2 d2 w hp hd hp2 hd2

set_option maxRecDepth 100000 in
set_option maxHeartbeats 4000000 in
theorem optionReads_big (v : Value) (b : List UInt8) (w : World) (hv : Byt w v b) (hl : 131072 < b.length) :
    Calls Try.prog 4 #[v] w fun e w' => e = .returned (.bool true) ∧ Below w.heap.size w w' := by
  have HV0 := Lib.hid hv
  obtain ⟨xv, cv, rfl, hv1, hv2⟩ := hv.shut
  clear hv
  obtain ⟨nv, hnv⟩ : ∃ n, Hid (n = b.length) := ⟨_, Lib.hid rfl⟩
  rw [← hnv.out] at HV0 hv1 ⊢
  have hq : decide ((131072 : Int) < (nv : Int)) = true := by have := hnv.out; simp; omega
  clear hl
  go_enter Try.func4, Try.ntmps4
  go_wp2_with fail
  refine (works_calls _).mono ?_
  rintro e wz ⟨rfl, hb⟩
  have HBz := Lib.hid hb
  clear hb
  go_wp2
  go_ret
  exact ⟨rfl, HBz.out⟩

set_option maxRecDepth 100000 in
set_option maxHeartbeats 4000000 in
theorem optionReads_main (v : Value) (b : List UInt8) (w : World) (hv : Byt w v b) (hl : b.length ≤ 131072) :
    Calls Try.prog 4 #[v] w fun e w' => e = .returned (.bool true) ∧ Below w.heap.size w w' := by
  have HV0 := Lib.hid hv
  obtain ⟨xv, cv, rfl, hv1, hv2⟩ := hv.shut
  clear hv
  obtain ⟨nv, hnv⟩ : ∃ n, Hid (n = b.length) := ⟨_, Lib.hid rfl⟩
  rw [← hnv.out] at HV0 hv1 ⊢
  have hq : decide ((131072 : Int) < (nv : Int)) = false := by have := hnv.out; simp; omega
  obtain ⟨q, hqq⟩ : ∃ q, Hid (q = rdR b) := ⟨_, Lib.hid rfl⟩
  obtain ⟨E, hE⟩ : ∃ E, Hid (E = rdE b) := ⟨_, Lib.hid rfl⟩
  obtain ⟨S, hS⟩ : ∃ S, Hid (S = sOf q.s) := ⟨_, Lib.hid rfl⟩
  obtain ⟨np, hnp⟩ : ∃ n, Hid (n = q.p.length) := ⟨_, Lib.hid rfl⟩
  obtain ⟨nd, hnd⟩ : ∃ n, Hid (n = q.d.length) := ⟨_, Lib.hid rfl⟩
  have HR := Lib.hid (fun v W (h : Byt W v b) => read_form (optRead_calls v b W h (by omega)) q hqq.out E hE.out S hS.out np nd hnp.out hnd.out)
  have HRR := Lib.hid (fun v W (h : Byt W v b) => read_form (refRead_calls v b W h (by omega)) q hqq.out E hE.out S hS.out np nd hnp.out hnd.out)
  have HS := Lib.hid (same_form q.a q.s q.p q.d S hS.out)
  have hlen := rdR_len b
  rw [← hqq.out] at hlen
  have HLE : Hid (∀ x ∈ [q.d, q.p, b], x.length ≤ 1000000000000) := Lib.hid (fun x hx => by
    simp only [List.mem_cons, List.not_mem_nil, or_false] at hx
    rcases hx with rfl | rfl | rfl <;> omega)
  have hl3 : b.length ≤ 1000000000000 := by omega
  clear hlen hl
  have HB_0 := Lib.hid (Below.refl w.heap.size w)
  have S_0 := Lib.hid (Sit.start1 w _ b HV0.out)
  go_enter Try.func4, Try.ntmps4
  go_wp2_with fail
  refine (S_0.out.roomy _ b nv hnv.out S_0.out.r0 (by omega)).mono ?_
  rintro e w1 ⟨g, cap2, rfl, ho, hS⟩
  have S_1 := Lib.hid hS
  have O_1 := Lib.hid (OwnB.mono ho S_0.out.bel.size)
  clear ho hS
  have HB_1 := Lib.hid S_1.out.bel
  go_wp2_with fail
  refine (HR.out _ _ S_1.out.o0.byt).mono ?_
  rintro e w2 ⟨x1, c1, x2, c2, rfl, ho1, ho2, hne, hb⟩
  have S_2 := Lib.hid (Sit.born2 S_1.out hb ho1 ho2 hne)
  have O_2 := Lib.hid (OwnB.below O_1.out hb)
  have HB_2 := Lib.hid S_2.out.bel
  clear hb ho1 ho2 hne
  have HB_3 := Lib.hid (HB_2.out.alloc HB_2.out.size (.cells #[.int .u32 (q.a : Int), .string S, .slice x1 np c1, .slice x2 nd c2] 25))
  have S_3 := Lib.hid (Sit.alloc S_2.out (.cells #[.int .u32 (q.a : Int), .string S, .slice x1 np c1, .slice x2 nd c2] 25))
  have O_3 := Lib.hid (OwnB.alloc O_2.out (.cells #[.int .u32 (q.a : Int), .string S, .slice x1 np c1, .slice x2 nd c2] 25))
  have R2_3 := Lib.hid (RowAt.new w2 #[.int .u32 (q.a : Int), .string S, .slice x1 np c1, .slice x2 nd c2] 25 (w2.heap.size) (by first | rfl | simp))
  go_wp2_with fail
  refine (HRR.out _ _ S_3.out.r0).mono ?_
  rintro e w4 ⟨x3, c3, x4, c4, rfl, ho4, ho5, hne, hb⟩
  have HB_4 := Lib.hid (HB_3.out.trans (hb.mono HB_3.out.size))
  have S_4 := Lib.hid (Sit.call S_3.out hb)
  have O_4 := Lib.hid (OwnB.below O_3.out hb)
  have R2_4 := Lib.hid (RowAt.below R2_3.out hb)
  have P3_4 := Lib.hid ho4.byt
  have D3_4 := Lib.hid ho5.byt
  clear ho4 ho5 hne
  clear hb
  have HB_5 := Lib.hid (HB_4.out.alloc HB_4.out.size (.cells #[.int .u32 (q.a : Int), .string S, .slice x3 np c3, .slice x4 nd c4] 25))
  have S_5 := Lib.hid (Sit.alloc S_4.out (.cells #[.int .u32 (q.a : Int), .string S, .slice x3 np c3, .slice x4 nd c4] 25))
  have O_5 := Lib.hid (OwnB.alloc O_4.out (.cells #[.int .u32 (q.a : Int), .string S, .slice x3 np c3, .slice x4 nd c4] 25))
  have R2_5 := Lib.hid (RowAt.alloc R2_4.out (.cells #[.int .u32 (q.a : Int), .string S, .slice x3 np c3, .slice x4 nd c4] 25))
  have P3_5 := Lib.hid (Byt.below P3_4.out ((Below.refl _ _).alloc (Nat.le_refl _) (.cells #[.int .u32 (q.a : Int), .string S, .slice x3 np c3, .slice x4 nd c4] 25)))
  have D3_5 := Lib.hid (Byt.below D3_4.out ((Below.refl _ _).alloc (Nat.le_refl _) (.cells #[.int .u32 (q.a : Int), .string S, .slice x3 np c3, .slice x4 nd c4] 25)))
  have R3_5 := Lib.hid (RowAt.new w4 #[.int .u32 (q.a : Int), .string S, .slice x3 np c3, .slice x4 nd c4] 25 (w4.heap.size) (by first | rfl | simp))
  have R2c0 := R2_5.out.cell 0 (.int .u32 (q.a : Int)) rfl
  have R2c1 := R2_5.out.cell 1 (.string S) rfl
  have R2c2 := R2_5.out.cell 2 (.slice x1 np c1) rfl
  have R2c3 := R2_5.out.cell 3 (.slice x2 nd c2) rfl
  have R2z := R2_5.out.lt
  have R3c0 := R3_5.out.cell 0 (.int .u32 (q.a : Int)) rfl
  have R3c1 := R3_5.out.cell 1 (.string S) rfl
  have R3c2 := R3_5.out.cell 2 (.slice x3 np c3) rfl
  have R3c3 := R3_5.out.cell 3 (.slice x4 nd c4) rfl
  have R3z := R3_5.out.lt
  go_wp2_with fail
  refine (HS.out _ _ _ _ _ S_5.out.o1.byt S_5.out.o0.byt P3_5.out D3_5.out).mono ?_
  rintro e w6 ⟨rfl, hb⟩
  have HB_6 := Lib.hid (HB_5.out.trans (hb.mono HB_5.out.size))
  have S_6 := Lib.hid (Sit.call S_5.out hb)
  have O_6 := Lib.hid (OwnB.below O_5.out hb)
  have R2_6 := Lib.hid (RowAt.below R2_5.out hb)
  have P3_6 := Lib.hid (Byt.below P3_5.out hb)
  have D3_6 := Lib.hid (Byt.below D3_5.out hb)
  have R3_6 := Lib.hid (RowAt.below R3_5.out hb)
  clear hb R2c0 R2c1 R2c2 R2c3 R2z R3c0 R3c1 R3c2 R3c3 R3z
  go_wp2_with fail
  refine (kept_any _ g nv cap2 _ b _ hnv.out O_6.out S_6.out.r0).mono ?_
  rintro e w' ⟨rfl, rfl⟩
  have R2c0 := R2_6.out.cell 0 (.int .u32 (q.a : Int)) rfl
  have R2c1 := R2_6.out.cell 1 (.string S) rfl
  have R2c2 := R2_6.out.cell 2 (.slice x1 np c1) rfl
  have R2c3 := R2_6.out.cell 3 (.slice x2 nd c2) rfl
  have R2z := R2_6.out.lt
  go_wp2_with fail
  refine (S_6.out.apart [1, 0, 2] #[.slice x1 np c1, .slice x2 nd c2, .slice (some ⟨g, 0, none⟩) nv cap2] 3 (by decide) (by simp) rfl rfl (by decide) (by decide) (len_all _ HLE.out)).mono ?_
  rintro e w9 ⟨rfl, hb⟩
  have HB_9 := Lib.hid hb
  clear hb R2c0 R2c1 R2c2 R2c3 R2z
  go_wp2_with fail
  refine (works_calls _).mono ?_
  rintro e wz ⟨rfl, hb⟩
  have HBz := Lib.hid (HB_9.out.trans (hb.mono HB_9.out.size))
  clear hb
  go_wp2
  go_ret
  exact ⟨rfl, HBz.out⟩

theorem optionReads_walk (v : Value) (b : List UInt8) (w : World) (hv : Byt w v b) :
    Calls Try.prog 4 #[v] w fun e w' => e = .returned (.bool true) ∧ Below w.heap.size w w' := by
  by_cases hl : b.length ≤ 131072
  · exact optionReads_main v b w hv hl
  · exact optionReads_big v b w hv (by omega)
end Go.Proofs.Ytbcocblamocobaa
