/-
  The contract of option's Read.
-/
import Derived.Test.YtbcocblamocobaaOpt3
import Derived.Laws.EntriesVeiled
namespace Go.Proofs.Ytbcocblamocobaa
open Go Go.RowKit

/-- The boxes of Read in its midst: the bytes, the option, whether all was there, where it stands, take; and that nothing else was turned. -/
structure RSt (w0 w : World) (sl : Value) (cells : Array Value) (p : Nat) (k : Bool) : Prop where
  b : RowAt w (w0.heap.size) #[sl]
  o : RowAt w (w0.heap.size + 1) cells
  k : RowAt w (w0.heap.size + 1 + 1) #[.bool k]
  a : RowAt w (w0.heap.size + 1 + 1 + 1) #[.int .i64 (p : Int)]
  t : RowAt w (w0.heap.size + 1 + 1 + 1 + 1) #[.func (.func 28) #[] #[.pointer (some ⟨w0.heap.size, 0, none⟩), .pointer (some ⟨w0.heap.size + 1 + 1 + 1, 0, none⟩), .pointer (some ⟨w0.heap.size + 1 + 1, 0, none⟩)]]
  bel : Below w0.heap.size w0 w

section
variable {w0 w w' : World} {sl : Value} {cells : Array Value} {p : Nat} {k : Bool}
theorem RSt.below (S : RSt w0 w sl cells p k) (hb : Below w.heap.size w w') : RSt w0 w' sl cells p k :=
  ⟨S.b.below hb, S.o.below hb, S.k.below hb, S.a.below hb, S.t.below hb, S.bel.trans (hb.mono S.bel.size)⟩
theorem RSt.took (S : RSt w0 w sl cells p k) {p' : Nat} {k' : Bool} (hA : RowAt w' (w0.heap.size + 1 + 1 + 1) #[.int .i64 (p' : Int)]) (hK : RowAt w' (w0.heap.size + 1 + 1) #[.bool k']) (hC : Chg [w0.heap.size + 1 + 1 + 1, w0.heap.size + 1 + 1] w w') : RSt w0 w' sl cells p' k' := by
  have hne : ∀ x, x ≠ w0.heap.size + 1 + 1 + 1 → x ≠ w0.heap.size + 1 + 1 → x ∉ [w0.heap.size + 1 + 1 + 1, w0.heap.size + 1 + 1] := fun x h1 h2 hx => by simp only [List.mem_cons, List.not_mem_nil, or_false] at hx; rcases hx with e | e <;> contradiction
  exact ⟨S.b.chg hC (hne _ (by omega) (by omega)), S.o.chg hC (hne _ (by omega) (by omega)), hK, hA, S.t.chg hC (hne _ (by omega) (by omega)),
    Below.andChg S.bel hC S.bel.size (fun x hx => by simp only [List.mem_cons, List.not_mem_nil, or_false] at hx; rcases hx with rfl | rfl <;> omega)⟩
theorem RSt.put (S : RSt w0 w sl cells p k) (i : Nat) (u : Value) (hi : i < cells.size) : RSt w0 (w.setCell ⟨w0.heap.size + 1, i, none⟩ u) sl (cells.set i u hi) p k :=
  ⟨S.b.far (by omega), S.o.set hi, S.k.far (by omega), S.a.far (by omega), S.t.far (by omega), S.bel.setCell (p := ⟨w0.heap.size + 1, i, none⟩) (by show w0.heap.size ≤ w0.heap.size + 1; omega) u⟩
/-- What was made since stays where take goes on. -/
theorem RSt.own_took {base : Nat} {v : Value} {l : List UInt8} (_S : RSt w0 w sl cells p k) (ho : OwnB w base v l) (hb : w0.heap.size + 1 + 1 + 1 + 1 < base) (hC : Chg [w0.heap.size + 1 + 1 + 1, w0.heap.size + 1 + 1] w w') : OwnB w' base v l :=
  ho.chg' hC (fun x hx => by simp only [List.mem_cons, List.not_mem_nil, or_false] at hx; rcases hx with rfl | rfl <;> omega)
theorem own_put {base : Nat} {v : Value} {l : List UInt8} (ho : OwnB w base v l) (hb : w0.heap.size + 1 + 1 + 1 + 1 < base) (i : Nat) (u : Value) : OwnB (w.setCell ⟨w0.heap.size + 1, i, none⟩ u) base v l :=
  ho.chg' ((Chg.refl [w0.heap.size + 1] w).setCell (i := i) (List.mem_singleton.2 rfl) u) (fun x hx => by rw [List.mem_singleton.1 hx]; omega)

theorem RSt.take_in {b : Option Addr} {len cap : Nat} {l : List UInt8} (S : RSt w0 w (.slice b len cap) cells p k) (hv : Byt w0 (.slice b len cap) l) (hlen : len = l.length) (n : Nat) (hn : p + n ≤ len) (hl : len ≤ 1000000000) :
    Calls Try.prog 28 #[.int .i64 (n : Int), .pointer (some ⟨w0.heap.size, 0, none⟩), .pointer (some ⟨w0.heap.size + 1 + 1 + 1, 0, none⟩), .pointer (some ⟨w0.heap.size + 1 + 1, 0, none⟩)] w fun e w' => ∃ x c, e = .returned (.slice x n c) ∧ OwnB w' w.heap.size (.slice x n c) ((l.drop p).take n) ∧ RSt w0 w' (.slice b len cap) cells (p + n) k ∧ Chg [w0.heap.size + 1 + 1 + 1, w0.heap.size + 1 + 1] w w' :=
  (Go.Proofs.Ytbcocblamocobaa.take_in b len cap l p n k _ _ _ w hlen (hv.below S.bel) S.b S.a S.k (by omega) hn hl).mono fun e w' ⟨x, c, he, ho, hA, hK, hC⟩ => ⟨x, c, he, ho, S.took hA hK hC, hC⟩
theorem RSt.take_out {b : Option Addr} {len cap : Nat} {l : List UInt8} (S : RSt w0 w (.slice b len cap) cells p k) (hv : Byt w0 (.slice b len cap) l) (hlen : len = l.length) (n : Nat) (hp : p ≤ len) (hn : len < p + n) (hn2 : n ≤ 1000000000000) (hl : len ≤ 1000000000) :
    Calls Try.prog 28 #[.int .i64 (n : Int), .pointer (some ⟨w0.heap.size, 0, none⟩), .pointer (some ⟨w0.heap.size + 1 + 1 + 1, 0, none⟩), .pointer (some ⟨w0.heap.size + 1 + 1, 0, none⟩)] w fun e w' => ∃ x c, e = .returned (.slice x 0 c) ∧ OwnB w' w.heap.size (.slice x 0 c) [] ∧ RSt w0 w' (.slice b len cap) cells p false ∧ Chg [w0.heap.size + 1 + 1 + 1, w0.heap.size + 1 + 1] w w' :=
  (Go.Proofs.Ytbcocblamocobaa.take_out b len cap l p n k _ _ _ w hlen (hv.below S.bel) S.b S.a S.k (by omega) hp hn hn2 hl).mono fun e w' ⟨x, c, he, ho, hA, hK, hC⟩ => ⟨x, c, he, ho, S.took hA hK hC, hC⟩
theorem RSt.number {b : Option Addr} {len cap : Nat} {l : List UInt8} (S : RSt w0 w (.slice b len cap) cells p k) (hv : Byt w0 (.slice b len cap) l) (hlen : len = l.length) (n : Nat) (hn : p + n ≤ len) (hl : len ≤ 1000000000) (hs : n = 2 ∨ n = 4) :
    Calls Try.prog 30 #[.int .i64 (n : Int), .pointer (some ⟨w0.heap.size + 1 + 1 + 1 + 1, 0, none⟩)] w fun e w' => e = .returned (.int .u64 (numL ((l.drop p).take n) : Int)) ∧ RSt w0 w' (.slice b len cap) cells (p + n) k ∧ Chg [w0.heap.size + 1 + 1 + 1, w0.heap.size + 1 + 1] w w' :=
  (number_calls b len cap l p n k _ _ _ _ w hlen (hv.below S.bel) S.t S.b S.a S.k (by omega) hn hl hs).mono fun e w' ⟨he, hA, hK, hC⟩ => ⟨he, S.took hA hK hC, hC⟩
end

theorem RSt.start (w0 : World) (sl : Value) (cells : Array Value) : RSt w0 (((((w0.alloc (.cells #[sl] 23)).alloc (.cells cells 25)).alloc (.cells #[.bool true] 4)).alloc (.cells #[.int .i64 0] 3)).alloc (.cells #[.func (.func 28) #[] #[.pointer (some ⟨w0.heap.size, 0, none⟩), .pointer (some ⟨w0.heap.size + 1 + 1 + 1, 0, none⟩), .pointer (some ⟨w0.heap.size + 1 + 1, 0, none⟩)]] 55)) sl cells 0 true := by
  have h : ∀ (w : World) (o : Obj), (w.alloc o).heap.size = w.heap.size + 1 := fun w o => by simp
  exact ⟨(((RowAt.new w0 _ _ _ rfl).alloc _).alloc _).alloc _ |>.alloc _, ((RowAt.new _ _ _ _ (by rw [h])).alloc _).alloc _ |>.alloc _, (RowAt.new _ _ _ _ (by rw [h, h])).alloc _ |>.alloc _, (RowAt.new _ _ _ _ (by rw [h, h, h])).alloc _, RowAt.new _ _ _ _ (by rw [h, h, h, h]),
    (((((Below.refl _ _).alloc (Nat.le_refl _) _).alloc (by rw [h]; omega) _).alloc (by rw [h, h]; omega) _).alloc (by rw [h, h, h]; omega) _).alloc (by rw [h, h, h, h]; omega) _⟩

/-- What is read of bytes, in its ways. -/
theorem rd_ways (l : List UInt8) (k : Nat) (hk : endK l = some k) : 8 + 2 * k ≤ l.length ∧ szL l < 65536 ∧ szL l = numL ((l.drop 4).take 2) ∧ numL (l.take 4) < 4294967296 ∧
    ((l.length < 8 + 2 * k + szL l ∧ rdO l = none) ∨ (8 + 2 * k + szL l ≤ l.length ∧ ((narOk ((l.drop 6).take (2 * k)) = false ∧ rdO l = none) ∨ (narOk ((l.drop 6).take (2 * k)) = true ∧ rdO l = some ⟨numL (l.take 4), narS ((l.drop 6).take (2 * k)), (l.drop (8 + 2 * k)).take (szL l), l.drop (8 + 2 * k + szL l)⟩)))) := by
  have he := (endK_some l k).1 hk
  have hz := (zp_iff l k).1 he.1
  have hr := rdO_some l k he.1 he.2
  have h1 : szL l < 65536 := by
    unfold szL
    have := numL_lt ((l.drop 4).take 2)
    have e : ((l.drop 4).take 2).length = 2 := by rw [List.length_take, List.length_drop]; omega
    rw [e] at this
    omega
  have h2 : numL (l.take 4) < 4294967296 := by
    have := numL_lt (l.take 4)
    have e : (l.take 4).length = 4 := by rw [List.length_take]; omega
    rw [e] at this
    omega
  refine ⟨by omega, h1, rfl, h2, ?_⟩
  rw [hr]
  unfold rdK
  by_cases h : 8 + 2 * k + szL l ≤ l.length
  · right
    refine ⟨h, ?_⟩
    cases hn : narOk ((l.drop 6).take (2 * k)) with
    | false => exact .inl ⟨rfl, by rw [if_neg (fun c => by simp at c)]⟩
    | true => exact .inr ⟨rfl, by rw [if_pos ⟨rfl, h⟩]⟩
  · exact .inl ⟨by omega, by rw [if_neg (fun c => h c.2)]⟩

def rdR (l : List UInt8) : Opt := (rdO l).getD opt0
def rdE (l : List UInt8) : Int := if (rdO l).isSome then 0 else 9

theorem res_none (l : List UInt8) (h : rdO l = none) : Ending.returned (.tuple #[.agg #[.int .u32 0, .string ByteArray.empty, .slice none 0 0, .slice none 0 0], .int .i64 9]) = .returned (.tuple #[optV (rdR l).a (rdR l).s (.slice none 0 0) (.slice none 0 0), .int .i64 (rdE l)]) ∧ rdR l = opt0 := by
  have e : rdR l = opt0 := by unfold rdR; rw [h]; rfl
  refine ⟨?_, e⟩
  rw [e]
  unfold rdE
  rw [h]
  rfl
theorem res_some (l : List UInt8) (o : Opt) (h : rdO l = some o) : rdR l = o ∧ rdE l = 0 := by
  unfold rdR rdE
  rw [h]
  exact ⟨rfl, rfl⟩

/-- b[q:], of bytes that are within. -/
theorem byt_tail {w : World} {b off len cap q : Nat} {l : List UInt8} (h : Byt w (.slice (some ⟨b, off, none⟩) len cap) l) (hlen : len = l.length) (hq : q ≤ len) :
    ∃ y, (∀ W : World, (Instr.sliceAt 23 (.slice (some ⟨b, off, none⟩) len cap) (some (.int .i64 (q : Int))) none none).run Try.prog W = .ok (.slice y (len - q) (cap - q)) W) ∧ Byt w (.slice y (len - q) (cap - q)) (l.drop q) := by
  subst hlen
  obtain ⟨a', cap', e, hlc, hcm, hc⟩ := h.open
  simp only [Value.slice.injEq] at e
  obtain ⟨rfl, _, rfl⟩ := e
  refine ⟨if cap = q then some ⟨b, off, none⟩ else some ⟨b, off + q, none⟩, fun W => ?_, ?_⟩
  · obtain ⟨i, hi, hz0, hz1, hz2⟩ := info_parts infoB
    have b2 : (0 : Int) ≤ (q : Int) ∧ (q : Int) ≤ (l.length : Int) := by omega
    simp [Instr.sliceAt, Instr.slice, Instr.sliceBounds, Instr.sliceBound, run_underlying Try.underlying23, asIntOf, b2, sizeOf, typeInfo, hi, hz1, add0]
    try omega
  · refine Byt.of (by rw [List.length_drop]) (by omega) (by unfold maxLen at hcm ⊢; omega) fun i hi => ?_
    rw [List.length_drop] at hi
    obtain ⟨b', off', e, hcell⟩ := hc (q + i) (by omega)
    cases e
    refine ⟨b, off + q, by rw [if_neg (by omega)], ?_⟩
    rw [Nat.add_assoc, hcell]
    simp [List.getD]

theorem clone_shape (v : Value) (l : List UInt8) (w : World) (h : Byt w v l) (hl : l.length ≤ 140737488355328) :
    Calls Try.prog 33 #[v] w fun e w' => ∃ x n c, e = .returned (.slice x n c) ∧ OwnB w' w.heap.size (.slice x n c) l ∧ Below w.heap.size w w' :=
  (clone_calls v l w h hl).mono fun e w' ⟨v', he, ho, hb⟩ => by
    obtain ⟨x, c, rfl, _, _⟩ := Own.shape ho
    exact ⟨x, _, c, he, ho, hb⟩

set_option maxRecDepth 100000 in
set_option maxHeartbeats 1000000 in
theorem optRead_none (v : Value) (l : List UInt8) (w0 : World) (hv : Byt w0 v l) (hl : l.length ≤ 1000000000) (hn : endK l = none) :
    Calls Try.prog 18 #[v] w0 fun e w' => e = .returned (.tuple #[.agg #[.int .u32 0, .string ByteArray.empty, .slice none 0 0, .slice none 0 0], .int .i64 9]) ∧ Below w0.heap.size w0 w' := by
  have HV := Lib.hid hv
  obtain ⟨x, cap, rfl, h1, h2⟩ := hv.shut
  have HE : Hid (∀ W, Below w0.heap.size w0 W → Calls Try.prog 27 #[.slice x l.length cap] W fun e w' => e = .returned (.tuple #[.int .i64 0, .bool false]) ∧ W = w') := Lib.hid (fun W hb => (end_calls _ l W (HV.out.below hb) (by omega)).mono (by
    rintro e w' ⟨⟨k, hk, rfl⟩ | ⟨_, rfl⟩, rfl⟩
    · rw [hn] at hk; cases hk
    · exact ⟨rfl, rfl⟩))
  obtain ⟨len, hlen⟩ : ∃ n, Hid (n = l.length) := ⟨_, Lib.hid rfl⟩
  rw [← hlen.out] at HE h1 hl ⊢
  clear hv hn HV
  have HB0 := Lib.hid (((Below.refl w0.heap.size w0).alloc (Nat.le_refl _) (.cells #[.slice x len cap] 23)).alloc (by simp) (.cells #[.int .u32 0, .string ByteArray.empty, .slice none 0 0, .slice none 0 0] 25))
  have R0 := Lib.hid ((RowAt.new (w0.alloc (.cells #[.slice x len cap] 23)) #[.int .u32 0, .string ByteArray.empty, .slice none 0 0, .slice none 0 0] 25 (w0.heap.size + 1) (by simp)).alloc (.cells #[.bool false] 4))
  go_enter Try.func18, Try.ntmps18
  go_wp2_with fail
  refine (HE.out _ HB0.out).mono ?_
  rintro e w1 ⟨rfl, rfl⟩
  go_wp2
  refine bodyPost_ret (v := .tuple #[.agg #[.int .u32 0, .string ByteArray.empty, .slice none 0 0, .slice none 0 0], .int .i64 9]) ?_ rfl ?_
  · (simp [results, Try.results18, go_sem]; try rfl)
  · refine ⟨rfl, ?_⟩
    repeat' (first
      | with_reducible exact Below.refl _ _
      | with_reducible refine Below.drew ?_
      | with_reducible refine Below.setCell ?_ ?_ _
      | with_reducible refine Below.alloc ?_ ?_ _
      | omega
      | (simp <;> omega))

set_option maxRecDepth 100000 in
set_option maxHeartbeats 1000000 in
theorem optRead_some (v : Value) (l : List UInt8) (w0 : World) (hv : Byt w0 v l) (hl : l.length ≤ 1000000000) (K : Nat) (hK : endK l = some K) :
    Calls Try.prog 18 #[v] w0 fun e w' => ∃ p' d', e = .returned (.tuple #[optV (rdR l).a (rdR l).s p' d', .int .i64 (rdE l)]) ∧ OwnB w' w0.heap.size p' (rdR l).p ∧ OwnB w' w0.heap.size d' (rdR l).d ∧ (∀ j, ownB p' = some j → ownB d' ≠ some j) ∧ Below w0.heap.size w0 w' := by
  have HV := Lib.hid hv
  obtain ⟨len, hlen⟩ : ∃ n, Hid (n = l.length) := ⟨_, Lib.hid rfl⟩
  obtain ⟨x0, cap, rfl, h1, h2⟩ := hv.shut
  obtain ⟨hw1, hw2, hw3, hw4, hw5⟩ := rd_ways l K hK
  obtain ⟨b, off, rfl⟩ : ∃ b off, x0 = some ⟨b, off, none⟩ := by
    obtain ⟨x', c', e, _, _, hc⟩ := hv.open
    obtain ⟨b, off, e2, _⟩ := hc 0 (by omega)
    cases e
    exact ⟨b, off, e2⟩
  have HE : Hid (∀ W, Below w0.heap.size w0 W → Calls Try.prog 27 #[.slice (some ⟨b, off, none⟩) l.length cap] W fun e w' => e = .returned (.tuple #[.int .i64 ((6 + 2 * K : Nat) : Int), .bool true]) ∧ W = w') := Lib.hid (fun W hb => (end_calls _ l W (HV.out.below hb) (by omega)).mono (by
    rintro e w' ⟨⟨k, hk, rfl⟩ | ⟨hk, rfl⟩, rfl⟩
    · rw [hK] at hk; cases hk; exact ⟨rfl, rfl⟩
    · rw [hK] at hk; cases hk))
  rw [← hlen.out] at HE h1 HV hw1 hw5 hl ⊢
  obtain ⟨x, hx⟩ : ∃ x, Hid (x = numL (l.take 4)) := ⟨_, Lib.hid rfl⟩
  obtain ⟨z, hz⟩ : ∃ x, Hid (x = szL l) := ⟨_, Lib.hid rfl⟩
  rw [← hx.out] at hw4 hw5
  rw [← hz.out] at hw2 hw3 hw5
  have HW3 := Lib.hid hw3
  have HW5 := Lib.hid hw5
  clear hv hK hw3 hw5
  have m1 : IntKind.u32.wrap (x : Int) = (x : Int) := by rw [IntKind.wrap_u32]; omega
  have m2 : IntKind.i64.wrap (z : Int) = (z : Int) := IntWalk.i64_in _ (by omega)
  have m3 : ((6 + 2 * K : Nat) : Int) - 6 = ((2 * K : Nat) : Int) := by omega
  obtain ⟨e0, he0⟩ : ∃ e0 : Nat, Hid (e0 = 6 + 2 * K) := ⟨_, Lib.hid rfl⟩
  obtain ⟨K2, hK2⟩ : ∃ n : Nat, Hid (n = 2 * K) := ⟨_, Lib.hid rfl⟩
  have hke : e0 = 6 + K2 := by rw [he0.out, hK2.out]
  rw [← he0.out] at HE m3
  rw [← hK2.out] at m3
  have hlb : 8 + K2 ≤ len := by rw [hK2.out]; exact hw1
  clear hw1
  have HB0 := Lib.hid (((Below.refl w0.heap.size w0).alloc (Nat.le_refl _) (.cells #[.slice (some ⟨b, off, none⟩) len cap] 23)).alloc (by simp) (.cells #[.int .u32 0, .string ByteArray.empty, .slice none 0 0, .slice none 0 0] 25))
  have S0 := Lib.hid (RSt.start w0 (.slice (some ⟨b, off, none⟩) len cap) #[.int .u32 0, .string ByteArray.empty, .slice none 0 0, .slice none 0 0])
  have HKE := Lib.hid hke
  clear hke
  go_enter Try.func18, Try.ntmps18
  go_wp2_with fail
  refine (HE.out _ HB0.out).mono ?_
  rintro e w1 ⟨rfl, rfl⟩
  go_wp2_with fail
  -- number(4)
  refine (RSt.number S0.out HV.out hlen.out 4 (by omega) hl (.inr rfl)).mono ?_
  rintro e w1 ⟨rfl, hs, hC⟩
  rw [List.drop_zero, ← hx.out]
  have S1 := Lib.hid hs
  clear hs hC
  have kb := S1.out.b.cell 0 (.slice (some ⟨b, off, none⟩) len cap) rfl
  have kk := S1.out.k.cell 0 _ rfl
  have ka := S1.out.a.cell 0 _ rfl
  have kt := S1.out.t.cell 0 _ rfl
  have o0 := S1.out.o.cell 0 (.int .u32 0) rfl
  have o1 := S1.out.o.cell 1 (.string ByteArray.empty) rfl
  have o2 := S1.out.o.cell 2 (.slice none 0 0) rfl
  have o3 := S1.out.o.cell 3 (.slice none 0 0) rfl
  have fo := S1.out.o.free
  have zo := S1.out.o.lt
  have S1a := Lib.hid (S1.out.put 0 (.int .u32 (x : Int)) (by simp))
  go_wp2_with fail
  -- number(2)
  refine (RSt.number S1a.out HV.out hlen.out 2 (by omega) hl (.inl rfl)).mono ?_
  rintro e w2 ⟨rfl, hs, hC⟩
  rw [← HW3.out]
  have S2 := Lib.hid hs
  clear hs hC
  clear kb kk ka kt o0 o1 o2 o3 fo zo
  have kb := S2.out.b.cell 0 (.slice (some ⟨b, off, none⟩) len cap) rfl
  have kk := S2.out.k.cell 0 _ rfl
  have ka := S2.out.a.cell 0 _ rfl
  have kt := S2.out.t.cell 0 _ rfl
  have o0 := S2.out.o.cell 0 (.int .u32 (x : Int)) rfl
  have o1 := S2.out.o.cell 1 (.string ByteArray.empty) rfl
  have o2 := S2.out.o.cell 2 (.slice none 0 0) rfl
  have o3 := S2.out.o.cell 3 (.slice none 0 0) rfl
  have fo := S2.out.o.free
  have zo := S2.out.o.lt
  go_wp2_with fail
  -- take(to - front)
  refine (RSt.take_in S2.out HV.out hlen.out K2 (by omega) hl).mono ?_
  rintro e w3 ⟨x3, c3, rfl, ho, hs, hC⟩
  have S3 := Lib.hid hs
  have O3 := Lib.hid ho
  clear hs hC ho
  clear kb kk ka kt o0 o1 o2 o3 fo zo
  obtain ⟨NS, hNS⟩ : ∃ s, Hid (s = sOf (narS ((l.drop 6).take K2))) := ⟨_, Lib.hid rfl⟩
  obtain ⟨NE, hNE⟩ : ∃ s, Hid (s = narE ((l.drop 6).take K2)) := ⟨_, Lib.hid rfl⟩
  have HNW := Lib.hid (narrow_calls _ _ w3 O3.out.byt (by rw [List.length_take]; omega))
  rw [← hNS.out, ← hNE.out] at HNW
  go_wp2_with fail
  refine HNW.out.mono ?_
  rintro e w4 ⟨rfl, hb⟩
  have S4 := Lib.hid (S3.out.below hb)
  clear hb
  have kb := S4.out.b.cell 0 (.slice (some ⟨b, off, none⟩) len cap) rfl
  have kk := S4.out.k.cell 0 _ rfl
  have ka := S4.out.a.cell 0 _ rfl
  have kt := S4.out.t.cell 0 _ rfl
  have o0 := S4.out.o.cell 0 (.int .u32 (x : Int)) rfl
  have o1 := S4.out.o.cell 1 (.string ByteArray.empty) rfl
  have o2 := S4.out.o.cell 2 (.slice none 0 0) rfl
  have o3 := S4.out.o.cell 3 (.slice none 0 0) rfl
  have fo := S4.out.o.free
  have zo := S4.out.o.lt
  have S4a := Lib.hid (S4.out.put 1 (.string NS) (by simp))
  go_wp2_with fail
  -- take(2)
  refine (RSt.take_in S4a.out HV.out hlen.out 2 (by omega) hl).mono ?_
  rintro e w5 ⟨x5, c5, rfl, ho, hs, hC⟩
  have S5 := Lib.hid hs
  clear hs hC ho
  clear kb kk ka kt o0 o1 o2 o3 fo zo
  have kb := S5.out.b.cell 0 (.slice (some ⟨b, off, none⟩) len cap) rfl
  have kk := S5.out.k.cell 0 _ rfl
  have ka := S5.out.a.cell 0 _ rfl
  have kt := S5.out.t.cell 0 _ rfl
  have o0 := S5.out.o.cell 0 (.int .u32 (x : Int)) rfl
  have o1 := S5.out.o.cell 1 (.string NS) rfl
  have o2 := S5.out.o.cell 2 (.slice none 0 0) rfl
  have o3 := S5.out.o.cell 3 (.slice none 0 0) rfl
  have fo := S5.out.o.free
  have zo := S5.out.o.lt
  go_wp2_with fail
  rcases HW5.out with ⟨g1, g2⟩ | ⟨g1, g2⟩
  · -- the path is longer than what there is
    have HRN := Lib.hid (res_none l g2)
    refine (RSt.take_out S5.out HV.out hlen.out z (by omega) (by have := hK2.out; omega) (by omega) hl).mono ?_
    rintro e w6 ⟨x6, c6, rfl, ho, hs, hC⟩
    have S6 := Lib.hid hs
    clear hs hC ho g1 g2
    clear kb kk ka kt o0 o1 o2 o3 fo zo
    obtain ⟨q, hq⟩ : ∃ q : Nat, q = 0 + 4 + 2 + K2 + 2 := ⟨_, rfl⟩
    rw [← hq] at S6
    have hqb : q ≤ len := by omega
    have HQ := Lib.hid hq
    clear hq
    obtain ⟨y, hsl, hby⟩ := byt_tail (b := b) (off := off) (cap := cap) (q := q) (len := len) HV.out hlen.out hqb
    have HBY := Lib.hid hby
    clear hby
    have kb := S6.out.b.cell 0 (.slice (some ⟨b, off, none⟩) len cap) rfl
    have kk := S6.out.k.cell 0 _ rfl
    have ka := S6.out.a.cell 0 _ rfl
    have kt := S6.out.t.cell 0 _ rfl
    have o0 := S6.out.o.cell 0 (.int .u32 (x : Int)) rfl
    have o1 := S6.out.o.cell 1 (.string NS) rfl
    have o2 := S6.out.o.cell 2 (.slice none 0 0) rfl
    have o3 := S6.out.o.cell 3 (.slice none 0 0) rfl
    have fo := S6.out.o.free
    have zo := S6.out.o.lt
    have S6a := Lib.hid (S6.out.put 2 (.slice x6 0 c6) (by simp))
    go_wp2_with fail
    refine (clone_shape _ _ _ (HBY.out.below S6a.out.bel) (by rw [List.length_drop]; have := hlen.out; omega)).mono ?_
    rintro e w7 ⟨x7, n7, c7, rfl, ho, hb⟩
    have S7 := Lib.hid (S6a.out.below hb)
    clear hb ho
    clear kb kk ka kt o0 o1 o2 o3 fo zo
    have kb := S7.out.b.cell 0 (.slice (some ⟨b, off, none⟩) len cap) rfl
    have kk := S7.out.k.cell 0 _ rfl
    have ka := S7.out.a.cell 0 _ rfl
    have kt := S7.out.t.cell 0 _ rfl
    have o0 := S7.out.o.cell 0 (.int .u32 (x : Int)) rfl
    have o1 := S7.out.o.cell 1 (.string NS) rfl
    have o2 := S7.out.o.cell 2 (.slice x6 0 c6) rfl
    have o3 := S7.out.o.cell 3 (.slice none 0 0) rfl
    have fo := S7.out.o.free
    have zo := S7.out.o.lt
    have S7a := Lib.hid (S7.out.put 3 (.slice x7 n7 c7) (by simp))
    have S7e := Lib.hid ((((S7a.out.put 0 (.int .u32 0) (by simp)).put 1 (.string ByteArray.empty) (by simp)).put 2 (.slice none 0 0) (by simp)).put 3 (.slice none 0 0) (by simp))
    go_wp2
    refine bodyPost_ret (v := .tuple #[.agg #[.int .u32 0, .string ByteArray.empty, .slice none 0 0, .slice none 0 0], .int .i64 9]) ?_ rfl ?_
    · (simp [results, Try.results18, go_sem, o0, o1, o2, o3]; try rfl)
    · refine ⟨.slice none 0 0, .slice none 0 0, HRN.out.1, ?_, ?_, fun j hj => by simp [ownB] at hj, S7e.out.bel⟩
      · rw [HRN.out.2]; exact OwnB.empty _ _ _
      · rw [HRN.out.2]; exact OwnB.empty _ _ _
  · refine (RSt.take_in S5.out HV.out hlen.out z (by have := hK2.out; omega) hl).mono ?_
    rintro e w6 ⟨x6, c6, rfl, ho, hs, hC⟩
    have S6 := Lib.hid hs
    have O6 := Lib.hid ho
    have zt := S5.out.t.lt
    clear hs hC ho
    clear kb kk ka kt o0 o1 o2 o3 fo zo
    obtain ⟨q, hq⟩ : ∃ q : Nat, q = 0 + 4 + 2 + K2 + 2 + z := ⟨_, rfl⟩
    rw [← hq] at S6
    have hqb : q ≤ len := by have := hK2.out; omega
    have HQ := Lib.hid hq
    clear hq
    obtain ⟨y, hsl, hby⟩ := byt_tail (b := b) (off := off) (cap := cap) (q := q) (len := len) HV.out hlen.out hqb
    have HBY := Lib.hid hby
    have HG1 := Lib.hid g1
    clear hby g1
    have kb := S6.out.b.cell 0 (.slice (some ⟨b, off, none⟩) len cap) rfl
    have kk := S6.out.k.cell 0 _ rfl
    have ka := S6.out.a.cell 0 _ rfl
    have kt := S6.out.t.cell 0 _ rfl
    have o0 := S6.out.o.cell 0 (.int .u32 (x : Int)) rfl
    have o1 := S6.out.o.cell 1 (.string NS) rfl
    have o2 := S6.out.o.cell 2 (.slice none 0 0) rfl
    have o3 := S6.out.o.cell 3 (.slice none 0 0) rfl
    have fo := S6.out.o.free
    have zo := S6.out.o.lt
    have S6a := Lib.hid (S6.out.put 2 (.slice x6 z c6) (by simp))
    have O6a := Lib.hid (own_put (w0 := w0) O6.out zt 2 (.slice x6 z c6))
    go_wp2_with fail
    refine (clone_shape _ _ _ (HBY.out.below S6a.out.bel) (by rw [List.length_drop]; have := hlen.out; omega)).mono ?_
    rintro e w7 ⟨x7, n7, c7, rfl, ho, hb⟩
    have S7 := Lib.hid (S6a.out.below hb)
    have O7 := Lib.hid ho
    have O67 := Lib.hid (O6a.out.below hb)
    have zt7 := S6a.out.t.lt
    clear hb ho
    clear kb kk ka kt o0 o1 o2 o3 fo zo
    have kb := S7.out.b.cell 0 (.slice (some ⟨b, off, none⟩) len cap) rfl
    have kk := S7.out.k.cell 0 _ rfl
    have ka := S7.out.a.cell 0 _ rfl
    have kt := S7.out.t.cell 0 _ rfl
    have o0 := S7.out.o.cell 0 (.int .u32 (x : Int)) rfl
    have o1 := S7.out.o.cell 1 (.string NS) rfl
    have o2 := S7.out.o.cell 2 (.slice x6 z c6) rfl
    have o3 := S7.out.o.cell 3 (.slice none 0 0) rfl
    have fo := S7.out.o.free
    have zo := S7.out.o.lt
    have S7a := Lib.hid (S7.out.put 3 (.slice x7 n7 c7) (by simp))
    rcases g2 with ⟨g2, g3⟩ | ⟨g2, g3⟩
    · -- a label that is none
      have HRN := Lib.hid (res_none l g3)
      have S7e := Lib.hid ((((S7a.out.put 0 (.int .u32 0) (by simp)).put 1 (.string ByteArray.empty) (by simp)).put 2 (.slice none 0 0) (by simp)).put 3 (.slice none 0 0) (by simp))
      obtain rfl : NE = 9 := by rw [hNE.out]; unfold narE; rw [hK2.out, g2]; rfl
      clear g2 g3
      go_wp2
      refine bodyPost_ret (v := .tuple #[.agg #[.int .u32 0, .string ByteArray.empty, .slice none 0 0, .slice none 0 0], .int .i64 9]) ?_ rfl ?_
      · (simp [results, Try.results18, go_sem, o0, o1, o2, o3]; try rfl)
      · refine ⟨.slice none 0 0, .slice none 0 0, HRN.out.1, ?_, ?_, fun j hj => by simp [ownB] at hj, S7e.out.bel⟩
        · rw [HRN.out.2]; exact OwnB.empty _ _ _
        · rw [HRN.out.2]; exact OwnB.empty _ _ _
    · have HRS := Lib.hid (res_some l _ g3)
      obtain rfl : NE = 0 := by rw [hNE.out]; unfold narE; rw [hK2.out, g2]; rfl
      clear g2 g3
      have S7e := Lib.hid ((((S7a.out.put 0 (.int .u32 (x : Int)) (by simp)).put 1 (.string NS) (by simp)).put 2 (.slice x6 z c6) (by simp)).put 3 (.slice x7 n7 c7) (by simp))
      have P6 := Lib.hid (own_put (w0 := w0) (own_put (w0 := w0) (own_put (w0 := w0) (own_put (w0 := w0) (own_put (w0 := w0) O67.out zt 3 (.slice x7 n7 c7)) zt 0 (.int .u32 (x : Int))) zt 1 (.string NS)) zt 2 (.slice x6 z c6)) zt 3 (.slice x7 n7 c7))
      have P7 := Lib.hid (own_put (w0 := w0) (own_put (w0 := w0) (own_put (w0 := w0) (own_put (w0 := w0) (own_put (w0 := w0) O7.out zt7 3 (.slice x7 n7 c7)) zt7 0 (.int .u32 (x : Int))) zt7 1 (.string NS)) zt7 2 (.slice x6 z c6)) zt7 3 (.slice x7 n7 c7))
      go_wp2
      refine bodyPost_ret (v := .tuple #[.agg #[.int .u32 (x : Int), .string NS, .slice x6 z c6, .slice x7 n7 c7], .int .i64 0]) ?_ rfl ?_
      · (simp [results, Try.results18, go_sem, o0, o1, o2, o3]; try rfl)
      · refine ⟨.slice x6 z c6, .slice x7 n7 c7, ?_, ?_, ?_, ?_, S7e.out.bel⟩
        · rw [HRS.out.1, HRS.out.2, hNS.out, hK2.out]
          rfl
        · rw [HRS.out.1]
          have := P6.out
          rw [show 0 + 4 + 2 + K2 + 2 = 8 + 2 * K by have := hK2.out; omega] at this
          exact this.mono (by omega)
        · rw [HRS.out.1]
          have := P7.out
          rw [show q = 8 + 2 * K + z by have := hK2.out; have := HQ.out; omega] at this
          exact this.mono (by omega)
        · intro j hj e
          have h1 := (Own.lt O6a.out j hj).2
          have h2 := (Own.lt O7.out j e).1
          omega

theorem optRead_calls (v : Value) (l : List UInt8) (w0 : World) (hv : Byt w0 v l) (hl : l.length ≤ 1000000000) :
    Calls Try.prog 18 #[v] w0 fun e w' => ∃ p' d', e = .returned (.tuple #[optV (rdR l).a (rdR l).s p' d', .int .i64 (rdE l)]) ∧ OwnB w' w0.heap.size p' (rdR l).p ∧ OwnB w' w0.heap.size d' (rdR l).d ∧ (∀ j, ownB p' = some j → ownB d' ≠ some j) ∧ Below w0.heap.size w0 w' := by
  cases hK : endK l with
  | some K => exact optRead_some v l w0 hv hl K hK
  | none =>
    have hr : rdO l = none := by unfold rdO; rw [hK]
    refine (optRead_none v l w0 hv hl hK).mono ?_
    rintro e w' ⟨rfl, hb⟩
    have HRN := res_none l hr
    refine ⟨.slice none 0 0, .slice none 0 0, HRN.1, ?_, ?_, fun j hj => by simp [ownB] at hj, hb⟩
    · rw [HRN.2]; exact OwnB.empty _ _ _
    · rw [HRN.2]; exact OwnB.empty _ _ _
end Go.Proofs.Ytbcocblamocobaa
