/-
  Merge: its map, its closures, slices.IndexFunc and slices.DeleteFunc over them, siglist.Merge itself; the document's stands and Merge.
-/
import Derived.Test.YtilanncobbdlfaaSg24
import Derived.Test.YtilanncobbdlfaaGidEq
import Derived.DeepKeys4
import Derived.WideKeyEntry
import Derived.Test.YtilanncobbdlfaaSg22
import Derived.Lib.SliceRun
import Derived.Test.YtilanncobbdlfaaSg23

/-
  Merge's map and closures, slices.IndexFunc and slices.DeleteFunc over them.
-/
/-
  The map of the items that Merge has met: one step of its counting.
-/
namespace Go.Proofs.Ytilanncobbdlfaa
open Go Go.RowKit
open Go.ChangeMaps (setBlock)
open Go.MapKept (Stamped)
set_option linter.unusedVariables false

theorem keyLaw : WideMaps.KeyLaw Try.prog 52 := deep_law_laid (by kernel_rfl) (m := 3) (by omega) (of_decide_eq_true (by kernel_rfl)) (by kernel_rfl) (by kernel_rfl)
/-- An item's key, as a value. -/
def keyV (k : Int) (o d : List UInt8) : Value := .agg (Value.int .u8 k :: (o.map b8 ++ [Value.string ⟨d.toArray⟩])).toArray
theorem b8_inj {a b : List UInt8} (h : a.map b8 = b.map b8) : a = b := by
  refine (List.map_inj_right (f := b8) ?_).1 h
  intro x y e
  unfold b8 at e
  have : (x.toNat : Int) = (y.toNat : Int) := by injection e
  exact UInt8.toNat_inj.1 (by omega)
theorem keyV_inj {k k' : Int} {o o' d d' : List UInt8} (ho : o.length = 16) (ho' : o'.length = 16) (h : keyV k o d = keyV k' o' d') : k = k' ∧ o = o' ∧ d = d' := by
  unfold keyV at h
  have h0 := List.toArray_inj (Value.agg.inj h)
  obtain ⟨h1, h2⟩ := List.cons.inj h0
  obtain ⟨h3, h4⟩ := List.append_inj h2 (by simp [ho, ho'])
  refine ⟨by injection h1, b8_inj h3, ?_⟩
  have h5 := Value.string.inj (List.cons.inj h4).1
  simpa using h5
theorem u8_wf (n : Int) (h : 0 ≤ n ∧ n ≤ 255) : (Lit.int .u8 n).wf = true := by
  simp [Lit.wf, IntKind.min, IntKind.max, IntKind.signed, IntKind.bits]
  omega
theorem key_is (k : Int) (o d : List UInt8) (hk : 0 ≤ k ∧ k ≤ 255) (ho : o.length = 16) (hd : d.length ≤ maxLen) : ∃ l, keyOf Try.prog 52 (keyV k o d) = some l := by
  have hu := Try.underlying52
  have h8 := Try.underlying5
  have hs := Try.underlying9
  have hc : Try.prog.cellsOf 52 = 18 := by kernel_rfl
  have hc8 : Try.prog.cellsOf 5 = 1 := by kernel_rfl
  have hcg : Try.prog.cellsOf 47 = 16 := by kernel_rfl
  have hcs : Try.prog.cellsOf 9 = 1 := by kernel_rfl
  have hkt : Try.prog.keyType 52 = true := by kernel_rfl
  obtain ⟨D, hD⟩ : ∃ D, Try.prog.types.size + 1 = (D + 2) + 1 := ⟨Try.prog.types.size - 2, by have : 2 ≤ Try.prog.types.size := of_decide_eq_true (by kernel_rfl); omega⟩
  have hlen : (Value.int .u8 k :: (o.map b8 ++ [Value.string ⟨d.toArray⟩])).length = 18 := by simp [ho]
  have hf : (keyV k o d).formed Try.prog 52 = true := by
    unfold keyV Value.formed
    simp only [hu, hc, List.size_toArray, hlen]
    rfl
  have e1 : ((Value.int .u8 k :: (o.map b8 ++ [Value.string ⟨d.toArray⟩])).drop 0).take 1 = [Value.int .u8 k] := rfl
  have e2 : ((Value.int .u8 k :: (o.map b8 ++ [Value.string ⟨d.toArray⟩])).drop 1).take 16 = o.map b8 := by
    show (o.map b8 ++ [Value.string ⟨d.toArray⟩]).take 16 = _
    rw [List.take_append_of_le_length (by simp [ho]), List.take_of_length_le (by simp [ho])]
  have e3 : ((Value.int .u8 k :: (o.map b8 ++ [Value.string ⟨d.toArray⟩])).drop 17).take 1 = [Value.string ⟨d.toArray⟩] := by
    show ((o.map b8 ++ [Value.string ⟨d.toArray⟩]).drop 16).take 1 = _
    rw [List.drop_append_of_le_length (by simp [ho]), List.drop_of_length_le (by simp [ho])]
    rfl
  have k1 : Try.prog.keyLits (D + 2) 5 [Value.int .u8 k] = some [.int .u8 k] := by
    unfold Program.keyLits
    simp only [h8, u8_wf k hk, and_self, if_true]
  have k2 : Try.prog.keyLits (D + 2) 47 (o.map b8) = some (o.map l8) := gid_lits D o ho
  have k3 : Try.prog.keyLits (D + 2) 9 [Value.string ⟨d.toArray⟩] = some [.string d] := by
    unfold Program.keyLits
    have : (ByteArray.mk d.toArray).size ≤ maxLen := by simpa [ByteArray.size] using hd
    simp only [hs, this, if_true]
  have hl : Try.prog.keyLits ((D + 2) + 1) 52 (Value.int .u8 k :: (o.map b8 ++ [Value.string ⟨d.toArray⟩])) = some ([.int .u8 k] ++ (o.map l8 ++ [.string d])) := by
    unfold Program.keyLits
    simp only [hu, hc, hlen]
    rw [if_pos ⟨trivial, by simp⟩]
    simp only [List.mapM_cons, List.mapM_nil, hc8, hcg, hcs, e1, e2, e3, k1, k2, k3]
    rfl
  refine ⟨.string (keyBytes ([.int .u8 k] ++ (o.map l8 ++ [.string d]))), ?_⟩
  unfold keyOf
  simp only [hu, hkt, hf, hD, Bool.and_self, if_true]
  show ((Try.prog.keyLits ((D + 2) + 1) 52 (Value.int .u8 k :: (o.map b8 ++ [Value.string ⟨d.toArray⟩]))).map fun ls => Lit.string (keyBytes ls)) = _
  rw [hl]
  rfl

theorem infoN0 : (Try.prog.info? 3).map (fun i => (i.zero, i.size, i.bytes)) = some (some (.int .i64 0), 1, 8) := by kernel_rfl
theorem zero_int (u : World) : (zeroValue 3).run Try.prog u = .ok (.int .i64 0) u := by
  obtain ⟨i, hi, hz0, hz1, hz2⟩ := info_parts infoN0
  simp [zeroValue, typeInfo, hi, hz0]
abbrev KV (v : Value) : Prop := ∃ l, keyOf Try.prog 52 v = some l
section
variable {w : World} {b : Nat} {es : Array MapEntry} {clock : Nat} {key : Value}
theorem look_hit (hb : w.heap[b]? = some (.map es clock)) (hks : ∀ e ∈ es.toList, KV e.key) (hk : KV key) {v : Value} (hv : ∀ e ∈ es.toList, e.key = key → e.val = v) (hex : ∃ e ∈ es.toList, e.key = key) :
    (Instr.lookup 50 (.map (some b)) key false).run Try.prog w = .ok v w := by
  obtain ⟨l, hk⟩ := hk
  rcases keyLaw.find w hk es.toList hks with ⟨h1, h2⟩ | ⟨j, e0, h1, h2, h3⟩
  · obtain ⟨e, he, hek⟩ := hex
    exact absurd hek (h2 e he)
  · have := hv e0 (List.mem_of_getElem? h2) h3
    subst this
    simp [Instr.lookup, run_underlying Try.underlying50, MapKept.run_getObj_map hb, keyLaw.check w _ hk, h1, Result.andThen]
theorem look_miss (hb : w.heap[b]? = some (.map es clock)) (hks : ∀ e ∈ es.toList, KV e.key) (hk : KV key) (hno : ∀ e ∈ es.toList, e.key ≠ key) :
    (Instr.lookup 50 (.map (some b)) key false).run Try.prog w = .ok (.int .i64 0) w := by
  obtain ⟨l, hk⟩ := hk
  rcases keyLaw.find w hk es.toList hks with ⟨h1, h2⟩ | ⟨j, e0, h1, h2, h3⟩
  · simp [Instr.lookup, run_underlying Try.underlying50, MapKept.run_getObj_map hb, keyLaw.check w _ hk, h1, zero_int, Result.andThen]
  · exact absurd h3 (hno e0 (List.mem_of_getElem? h2))
end
theorem nodup_key : ∀ {l : List MapEntry}, (l.map (·.key)).Nodup → ∀ {x y : MapEntry}, x ∈ l → y ∈ l → x.key = y.key → x = y
  | [], _, _, _, hx, _, _ => by simp at hx
  | z :: l, h, x, y, hx, hy, e => by
    simp only [List.map_cons, List.nodup_cons] at h
    obtain ⟨h1, h2⟩ := h
    rcases List.mem_cons.1 hx with ex | hx'
    · rcases List.mem_cons.1 hy with ey | hy'
      · rw [ex, ey]
      · exact (h1 (List.mem_map.2 ⟨y, hy', by rw [← e, ex]⟩)).elim
    · rcases List.mem_cons.1 hy with ey | hy'
      · exact (h1 (List.mem_map.2 ⟨x, hx', by rw [e, ey]⟩)).elim
      · exact nodup_key h2 hx' hy' e
/-- The map holds just these keys, each with a number of 1 to n. -/
structure MapK (w : World) (b : Nat) (ks : List Value) (n : Nat) : Prop where
  ex : ∃ es clock, w.heap[b]? = some (.map es clock) ∧ Stamped es clock ∧ (∀ e ∈ es.toList, KV e.key ∧ e.key ∈ ks ∧ ∃ c : Nat, 1 ≤ c ∧ c ≤ n ∧ e.val = .int .i64 c) ∧ ∀ k ∈ ks, ∃ e ∈ es.toList, e.key = k
theorem MapK.made (w : World) : MapK (w.alloc (.map #[] 0)) w.heap.size [] 0 := ⟨#[], 0, (MapKept.heap_alloc w _).1, MapKept.stamped_empty 0, by simp, by simp⟩
theorem MapK.lt {w : World} {b : Nat} {ks : List Value} {n : Nat} (h : MapK w b ks n) : b < w.heap.size := by
  obtain ⟨es, clock, hb, _⟩ := h.ex
  exact (Array.getElem?_eq_some_iff.1 hb).1
theorem MapK.of_block {w w' : World} {b : Nat} {ks : List Value} {n : Nat} (h : MapK w b ks n) (e : w'.heap[b]? = w.heap[b]?) : MapK w' b ks n := by
  obtain ⟨es, clock, hb, h1⟩ := h.ex
  exact ⟨es, clock, e.trans hb, h1⟩
theorem MapK.chg {w w' : World} {b : Nat} {ks : List Value} {n : Nat} {L : List Nat} (h : MapK w b ks n) (hc : Chg L w w') (hL : b ∉ L) : MapK w' b ks n := h.of_block (hc.block b h.lt hL)
theorem chg_setBlock {w : World} {b : Nat} (o : Obj) : Chg [b] w (setBlock w b o) := ⟨rfl, rfl, rfl, by simp [setBlock], fun k _ hk => by
  have : k ≠ b := by simpa using hk
  simp [setBlock, Array.getElem?_setIfInBounds, Ne.symm this]⟩
theorem at_setBlock {w : World} {b : Nat} (hb : b < w.heap.size) (o : Obj) : (setBlock w b o).heap[b]? = some o := by
  simp [setBlock, Array.getElem?_setIfInBounds, hb]
theorem store_run {w1 : World} {b i st clock : Nat} {es : Array MapEntry} (hb1 : w1.heap[b]? = some (.map es clock)) (hidx : es.findIdx? (fun e => ((e.born : Nat) : Int) == ((st : Nat) : Int)) = some i) (v : Value) :
    (Instr.entryStore 50 (.map (some b)) (goInt st) v).run Try.prog w1 = .ok () (setBlock w1 b (.map (es.modify i (fun e => { e with val := v })) clock)) := by
  simp [Instr.entryStore, MapKept.run_getObj_map hb1, asInt, asIntOf, goInt, hidx, MapKept.run_setObj_map _ hb1, Result.andThen, setBlock]
theorem mapK_step {w : World} {b : Nat} {ks : List Value} {n : Nat} {key : Value} (h : MapK w b ks n) (hk : KV key) :
    ∃ (c st : Nat) (v0 : Value) (w1 w2 : World), c ≤ n ∧ (c = 0 ↔ key ∉ ks) ∧
      (Instr.lookup 50 (.map (some b)) key false).run Try.prog w = .ok (.int .i64 c) w ∧
      (Instr.mapEntry 50 (.map (some b)) key).run Try.prog w = .ok (.tuple #[v0, goInt st]) w1 ∧
      (Instr.lookup 50 (.map (some b)) key false).run Try.prog w1 = .ok (.int .i64 c) w1 ∧
      (Instr.entryStore 50 (.map (some b)) (goInt st) (.int .i64 ((c : Int) + 1))).run Try.prog w1 = .ok () w2 ∧
      (Instr.lookup 50 (.map (some b)) key false).run Try.prog w2 = .ok (.int .i64 ((c : Int) + 1)) w2 ∧
      MapK w2 b (key :: ks) (n + 1) ∧ Chg [b] w w1 ∧ Chg [b] w w2 := by
  have hlt := h.lt
  obtain ⟨es, clock, hb, hst, he, hex⟩ := h.ex
  have hks : ∀ e ∈ es.toList, KV e.key := fun e h => (he e h).1
  obtain ⟨s1, s2, s3⟩ := hst
  obtain ⟨l, hkl⟩ := id hk
  have hU := Try.underlying50
  rcases keyLaw.find w hkl es.toList hks with ⟨h1, h2⟩ | ⟨j, e0, h1, h2, h3⟩
  · have hkn : key ∉ ks := fun hm => by
      obtain ⟨e, hem, hek⟩ := hex key hm
      exact h2 e hem hek
    have hidx : (es.push ⟨key, .int .i64 0, clock⟩).findIdx? (fun e => ((e.born : Nat) : Int) == ((clock : Nat) : Int)) = some es.size := by
      rw [WideElems.findIdx_arr]
      have := WideElems.findIdx_born (l := (es.push ⟨key, .int .i64 0, clock⟩).toList) (j := es.size) (e0 := ⟨key, .int .i64 0, clock⟩) (by
        simp only [Array.toList_push, List.map_append, List.map_cons, List.map_nil]
        refine List.nodup_append.2 ⟨s2, by simp, fun a ha c hc e1 => ?_⟩
        simp only [List.mem_singleton] at hc
        obtain ⟨x, hx, rfl⟩ := List.mem_map.1 ha
        have := s1 x hx
        omega) (by simp)
      exact this
    have hmod : (es.push ⟨key, .int .i64 0, clock⟩).modify es.size (fun e => { e with val := .int .i64 1 }) = es.push ⟨key, .int .i64 1, clock⟩ := by
      apply Array.ext'
      rw [Array.toList_modify, Array.toList_push, Array.toList_push, ← Array.length_toList, WideElems.modify_last]
    have hb1 : (setBlock w b (.map (es.push ⟨key, .int .i64 0, clock⟩) (clock + 1))).heap[b]? = some (.map (es.push ⟨key, .int .i64 0, clock⟩) (clock + 1)) := at_setBlock hlt _
    have hlt1 : b < (setBlock w b (.map (es.push ⟨key, .int .i64 0, clock⟩) (clock + 1))).heap.size := by simp [setBlock, hlt]
    refine ⟨0, clock, .int .i64 0, setBlock w b (.map (es.push ⟨key, .int .i64 0, clock⟩) (clock + 1)), setBlock (setBlock w b (.map (es.push ⟨key, .int .i64 0, clock⟩) (clock + 1))) b (.map (es.push ⟨key, .int .i64 1, clock⟩) (clock + 1)), Nat.zero_le _, by simp [hkn], ?_, ?_, ?_, ?_, ?_, ?_, chg_setBlock _, (chg_setBlock _).trans (chg_setBlock _)⟩
    · exact look_miss hb hks hk h2
    · simp [Instr.mapEntry, run_underlying hU, MapKept.run_getObj_map hb, keyLaw.check w false hkl, h1, zero_int, MapKept.run_setObj_map _ hb, Result.andThen, setBlock]
    · refine look_hit hb1 (fun e hm => ?_) hk (fun e hm hek => ?_) ⟨⟨key, .int .i64 0, clock⟩, by rw [Array.toList_push]; exact List.mem_append_right _ (by simp), rfl⟩
      · rw [Array.toList_push] at hm
        rcases List.mem_append.1 hm with hm | hm
        · exact hks e hm
        · rw [List.mem_singleton.1 hm]; exact hk
      · rw [Array.toList_push] at hm
        rcases List.mem_append.1 hm with hm | hm
        · exact absurd hek (h2 e hm)
        · rw [List.mem_singleton.1 hm]; rfl
    · have := store_run hb1 hidx (.int .i64 1)
      rw [hmod] at this
      exact this
    · refine look_hit (at_setBlock hlt1 _) (fun e hm => ?_) hk (fun e hm hek => ?_) ⟨⟨key, .int .i64 1, clock⟩, by rw [Array.toList_push]; exact List.mem_append_right _ (by simp), rfl⟩
      · rw [Array.toList_push] at hm
        rcases List.mem_append.1 hm with hm | hm
        · exact hks e hm
        · rw [List.mem_singleton.1 hm]; exact hk
      · rw [Array.toList_push] at hm
        rcases List.mem_append.1 hm with hm | hm
        · exact absurd hek (h2 e hm)
        · rw [List.mem_singleton.1 hm]; rfl
    · refine ⟨_, _, at_setBlock hlt1 _, MapKept.stamped_push ⟨s1, s2, s3⟩ h2, fun e hm => ?_, fun k hkm => ?_⟩
      · rw [Array.toList_push] at hm
        rcases List.mem_append.1 hm with hm | hm
        · obtain ⟨g1, g2, c, g3, g4, g5⟩ := he e hm
          exact ⟨g1, List.mem_cons_of_mem _ g2, c, g3, by omega, g5⟩
        · rw [List.mem_singleton.1 hm]
          exact ⟨hk, List.mem_cons_self, 1, Nat.le_refl _, by omega, rfl⟩
      · rw [Array.toList_push]
        rcases List.mem_cons.1 hkm with rfl | hkm
        · exact ⟨_, List.mem_append_right _ (List.mem_singleton.2 rfl), rfl⟩
        · obtain ⟨e, g1, g2⟩ := hex k hkm
          exact ⟨e, List.mem_append_left _ g1, g2⟩
  · have hm0 : e0 ∈ es.toList := List.mem_of_getElem? h2
    obtain ⟨_, hkin, c, hc1, hc2, hval⟩ := he e0 hm0
    rw [h3] at hkin
    have hj : es[j]? = some e0 := by simpa using h2
    have hsame : es.modify j (fun e => { e with key := key }) = es := by
      apply Array.ext'
      rw [Array.toList_modify, ChangeMaps.modify_eq_set _ _ _ _ h2]
      have : ({ e0 with key := key } : MapEntry) = e0 := by rw [← h3]
      rw [this]
      exact WideElems.set_self _ _ _ h2
    have hidx : es.findIdx? (fun e => ((e.born : Nat) : Int) == ((e0.born : Nat) : Int)) = some j := by
      rw [WideElems.findIdx_arr]
      exact WideElems.findIdx_born s2 h2
    have hb1 : (setBlock w b (.map es clock)).heap[b]? = some (.map es clock) := at_setBlock hlt _
    have hlt1 : b < (setBlock w b (.map es clock)).heap.size := by simp [setBlock, hlt]
    have hone : ∀ e ∈ es.toList, e.key = key → e.val = .int .i64 c := fun e hm hek => by
      rw [nodup_key s3 hm hm0 (hek.trans h3.symm)]; exact hval
    have hl2 : (es.modify j (fun e => { e with val := .int .i64 ((c : Int) + 1) })).toList = es.toList.set j { e0 with val := .int .i64 ((c : Int) + 1) } := by
      rw [Array.toList_modify, ChangeMaps.modify_eq_set _ _ _ _ h2]
    have hS2 : Stamped (es.modify j (fun e => { e with val := .int .i64 ((c : Int) + 1) })) clock := MapKept.stamped_modify ⟨s1, s2, s3⟩ j _ (fun _ _ => rfl) (fun _ _ _ => rfl)
    have hin2 : ({ e0 with val := .int .i64 ((c : Int) + 1) } : MapEntry) ∈ (es.modify j (fun e => { e with val := .int .i64 ((c : Int) + 1) })).toList := by
      rw [hl2]
      exact List.mem_of_getElem? (i := j) (by rw [List.getElem?_set_self (List.getElem?_eq_some_iff.1 h2).1])
    have hmem : ∀ e ∈ (es.modify j (fun e => { e with val := .int .i64 ((c : Int) + 1) })).toList, e ∈ es.toList ∨ e = { e0 with val := .int .i64 ((c : Int) + 1) } := fun e hm => by
      rw [hl2] at hm
      exact List.mem_or_eq_of_mem_set hm
    refine ⟨c, e0.born, e0.val, setBlock w b (.map es clock), setBlock (setBlock w b (.map es clock)) b (.map (es.modify j (fun e => { e with val := .int .i64 ((c : Int) + 1) })) clock), hc2, ⟨fun e => by omega, fun e => absurd hkin e⟩, ?_, ?_, ?_, ?_, ?_, ?_, chg_setBlock _, (chg_setBlock _).trans (chg_setBlock _)⟩
    · exact look_hit hb hks hk hone ⟨e0, hm0, h3⟩
    · simp [Instr.mapEntry, run_underlying hU, MapKept.run_getObj_map hb, keyLaw.check w false hkl, h1, hj, h3, keyLaw.stays w hkl, hsame, MapKept.run_setObj_map _ hb, Result.andThen, setBlock]
    · exact look_hit hb1 hks hk hone ⟨e0, hm0, h3⟩
    · exact store_run hb1 hidx _
    · refine look_hit (at_setBlock hlt1 _) (fun e hm => ?_) hk (fun e hm hek => ?_) ⟨_, hin2, h3⟩
      · rcases hmem e hm with hm | rfl
        · exact hks e hm
        · exact hks e0 hm0
      · rw [nodup_key hS2.2.2 hm hin2 (hek.trans h3.symm)]
    · refine ⟨_, _, at_setBlock hlt1 _, hS2, fun e hm => ?_, fun k hkm => ?_⟩
      · rcases hmem e hm with hm | rfl
        · obtain ⟨g1, g2, c, g3, g4, g5⟩ := he e hm
          exact ⟨g1, List.mem_cons_of_mem _ g2, c, g3, by omega, g5⟩
        · refine ⟨hks e0 hm0, ?_, c + 1, by omega, by omega, by simp⟩
          show e0.key ∈ _
          rw [h3]
          exact List.mem_cons_self
      · have : ∃ e ∈ es.toList, e.key = k := by
          rcases List.mem_cons.1 hkm with rfl | hkm
          · exact ⟨e0, hm0, h3⟩
          · exact hex k hkm
        obtain ⟨e, g1, g2⟩ := this
        by_cases hek : e.key = key
        · exact ⟨_, hin2, by show e0.key = k; rw [h3, ← hek, g2]⟩
        · refine ⟨e, ?_, g2⟩
          rw [hl2]
          obtain ⟨i, hi⟩ := List.mem_iff_getElem?.1 g1
          have hij : i ≠ j := fun e' => by
            subst e'
            rw [h2] at hi
            injection hi with hi
            exact hek (by rw [← hi]; exact h3)
          exact List.mem_of_getElem? (i := i) (by rw [List.getElem?_set_ne (Ne.symm hij)]; exact hi)
theorem MapK.ne {W : World} {bm b o n : Nat} {ks : List Value} {v : Value} (h : MapK W bm ks n) (hc : W.cell? ⟨b, o, none⟩ = some v) : b ≠ bm := by
  rintro rfl
  obtain ⟨es, clock, hb, _⟩ := h.ex
  simp [World.cell?, hb] at hc
theorem Chg.cell {L : List Nat} {w w' : World} (h : Chg L w w') {p : Addr} {v : Value} (hc : w.cell? p = some v) (hn : p.block ∉ L) : w'.cell? p = some v :=
  (World.cell?_of_block (h.block p.block (lt_of_cell hc) hn)).trans hc
end Go.Proofs.Ytilanncobbdlfaa

/-
  The contract of Merge's fresh: is it the first time that the item is met?
-/
namespace Go.Proofs.Ytilanncobbdlfaa
open Go Go.RowKit
set_option linter.unusedVariables false

theorem key_built (k : Int) (g : List UInt8) (hg : g.length = 16) (s : ByteArray) :
    Try.prog.built 52 [(0, .int .u8 k), (1, .agg (g.map b8).toArray), (2, .string s)] = some (Value.int .u8 k :: (g.map b8 ++ [Value.string s])).toArray := by
  obtain ⟨a0, a1, a2, a3, a4, a5, a6, a7, a8, a9, a10, a11, a12, a13, a14, a15, rfl⟩ := list16 g hg
  kernel_rfl
theorem sizeK : (Try.prog.info? 52).map (·.size) = some 18 := by kernel_rfl
section
variable {ops : Array Oper} {rest : List Oper} {o : Oper} {a : Act} {w : World} {Q : Exit → Act → World → Prop}
theorem wpList_build_key (hgd : o.guard = none) (p q r : Operand) (ho : o.op = .build 52 #[(0, p), (1, q), (2, r)]) (k : Int) (g : List UInt8) (hg : g.length = 16) (s : ByteArray)
    (hp : a.eval p = .int .u8 k) (hq : a.eval q = .agg (g.map b8).toArray) (hr : a.eval r = .string s) (h : wpList Try.prog ops Q rest (a.put o.dst (.agg (Value.int .u8 k :: (g.map b8 ++ [Value.string s])).toArray)) w) : wpList Try.prog ops Q (o :: rest) a w := by
  refine wpList_plain hgd fun K' hK' => ?_
  have hb := key_built k g hg s
  refine wp_build 52 _ ho ?_ ?_
  · simp only [List.map_toArray, List.map_cons, List.map_nil, hp, hq, hr]
    show (Try.prog.built 52 [(0, _), (1, _), (2, _)]).isSome = true
    rw [hb]
    rfl
  · simp only [List.map_toArray, List.map_cons, List.map_nil, hp, hq, hr]
    show K' (a.put o.dst (.agg ((Try.prog.built 52 [(0, _), (1, _), (2, _)]).getD #[]))) w
    rw [hb]
    exact hK' _ _ h
theorem wpList_store_key (hgd : o.guard = none) (x y : Operand) (ho : o.op = .store 52 x y) (W : World) (Z : Array Value) (X : List Value) (hZ : Z.size = 18) (hX : X.length = 18) (h1 : ∀ u ∈ X, u.oneCell' = true)
    (b : Nat) (hb : b = W.heap.size) (hx : a.eval x = .pointer (some ⟨b, 0, none⟩)) (hy : a.eval y = .agg X.toArray) (h : wpList Try.prog ops Q rest (a.put o.dst undef) (W.alloc (.cells X.toArray 52))) : wpList Try.prog ops Q (o :: rest) a (W.alloc (.cells Z 52)) := by
  subst hb
  refine wpList_store_row (w := W.alloc (.cells Z 52)) hgd 52 x y ho W.heap.size X.toArray hx hy 52 Z (heap_alloc_new W _) (by rw [sizeK]; simp [hX]) (by simp [hX, hZ]) (all_oneCell_toArray h1) ?_
  rw [alloc_setRow]
  exact h
end
theorem list18 {α : Type} (l : List α) (h : l.length = 18) : ∃ u0 u1 u2 u3 u4 u5 u6 u7 u8 u9 u10 u11 u12 u13 u14 u15 u16 u17, l = [u0, u1, u2, u3, u4, u5, u6, u7, u8, u9, u10, u11, u12, u13, u14, u15, u16, u17] := by
  match l, h with
  | [u0, u1, u2, u3, u4, u5, u6, u7, u8, u9, u10, u11, u12, u13, u14, u15, u16, u17], _ => exact ⟨_, _, _, _, _, _, _, _, _, _, _, _, _, _, _, _, _, _, rfl⟩
theorem key_size {k : Int} {g : List UInt8} (hg : g.length = 16) (s : ByteArray) : (Value.int .u8 k :: (g.map b8 ++ [Value.string s])).length = 18 := by simp [hg]
theorem key_oneCell {k : Int} {g : List UInt8} (s : ByteArray) : ∀ u ∈ (Value.int .u8 k :: (g.map b8 ++ [Value.string s])), u.oneCell' = true := by
  intro u hu
  rcases List.mem_cons.1 hu with rfl | hu
  · rfl
  · rw [List.mem_append] at hu
    rcases hu with hu | hu
    · exact b8_oneCell g u hu
    · rw [List.mem_singleton.1 hu]; rfl

set_option maxRecDepth 100000 in
set_option maxHeartbeats 4000000 in
theorem fresh_calls (k : Int) (x : ItV) (w : World) (bb bm n : Nat) (ks : List Value) (hk : 0 ≤ k ∧ k ≤ 255) (hx : x.o.length = 16) (hd : Byt w x.v x.d) (hdl : x.d.length ≤ 1000000000)
    (hc : w.cell? ⟨bb, 0, none⟩ = some (.map (some bm))) (hm : MapK w bm ks n) (hn : n ≤ 4611686018427387904) :
    Calls Try.prog 25 #[.int .u8 k, .agg (itC x).toArray, .pointer (some ⟨bb, 0, none⟩)] w fun e w' => ∃ B : Bool, (B = true ↔ keyV k x.o x.d ∉ ks) ∧ e = .returned (.bool B) ∧ MapK w' bm (keyV k x.o x.d :: ks) (n + 1) ∧ Chg [bm] w w' := by
  obtain ⟨g, d, v⟩ := x
  simp only at hx hd hdl ⊢
  have HD := Lib.hid hd
  have HM := Lib.hid hm
  have HC := Lib.hid hc
  obtain ⟨a, cap, rfl, h1, h2, _⟩ := hd.open
  clear hd hm hc
  obtain ⟨m, hm⟩ : ∃ m, Hid (m = d.length) := ⟨_, Lib.hid rfl⟩
  rw [← hm.out] at HD h1 ⊢
  obtain ⟨X, hX⟩ : ∃ X, Hid (X = g.map b8 ++ [Value.slice a m cap]) := ⟨_, Lib.hid rfl⟩
  have hX2 : itC ⟨g, d, .slice a m cap⟩ = X := hX.out.symm
  rw [hX2]
  clear hX2
  have HXL : Hid (X.length = 17) := Lib.hid (by rw [hX.out]; simp [hx])
  have HR1 := Lib.hid (RowAt.new w X.toArray 49 w.heap.size rfl)
  have HRG : Hid ((w.alloc (.cells X.toArray 49)).rangeAt w.heap.size 0 (g.map b8)) := Lib.hid (range_pre (by have := HR1.out.range; rw [hX.out] at this ⊢; exact this))
  have f16 := HR1.out.cell 16 (.slice a m cap) (by rw [hX.out]; simp [hx])
  have HB1 := Lib.hid ((Below.refl w.heap.size w).alloc (Nat.le_refl _) (.cells X.toArray 49))
  have hcv : (convert 22 9 (.slice a m cap)).run Try.prog (w.alloc (.cells X.toArray 49)) = .ok (.string (sOf d)) (w.alloc (.cells X.toArray 49)) := run_tostring (HD.out.below HB1.out) _ _ _ Try.underlying22 Try.underlying5 Try.underlying9
  go_enter Try.func25, Try.ntmps25
  go_wp2_with (first
    | (refine wpList_load_mid rfl 47 _ rfl w.heap.size 0 rfl (g.map b8) _ HRG.out Try.underlying47 rfl (by rw [List.length_map, hx]; kernel_rfl) ?_)
    | (refine wpList_build_key rfl _ _ _ rfl k g hx (sOf d) rfl rfl rfl ?_)
    | (refine wpList_store_key rfl _ _ rfl _ _ _ rfl (key_size hx _) (key_oneCell _) _ (by simp) rfl rfl ?_))
  clear f16 hcv
  have HB2 := Lib.hid (HB1.out.alloc HB1.out.size (.cells (Value.int .u8 k :: (g.map b8 ++ [Value.string (sOf d)])).toArray 52))
  obtain ⟨K, hK⟩ : ∃ K, Hid (K = Value.int .u8 k :: (g.map b8 ++ [Value.string (sOf d)])) := ⟨_, Lib.hid rfl⟩
  rw [← hK.out] at HB2 ⊢
  have HR2 := Lib.hid (RowAt.new (w.alloc (.cells X.toArray 49)) K.toArray 52 (w.heap.size + 1) (by simp))
  obtain ⟨W, hW⟩ : ∃ W, Hid (W = (w.alloc (.cells X.toArray 49)).alloc (.cells K.toArray 52)) := ⟨_, Lib.hid rfl⟩
  rw [← hW.out] at HB2 HR2 ⊢
  have HMW : Hid (MapK W.drew bm ks n) := Lib.hid ((HM.out.of_block (HB2.out.block bm HM.out.lt)).of_block rfl)
  obtain ⟨c, st, v0, w1, w2, hcn, hck, hl0, hme, hl1, hes, hl2, hm2, hc1, hc2⟩ := mapK_step HMW.out (key := keyV k g d) (key_is k g d hk hx (by unfold maxLen; omega))
  have hKV : keyV k g d = .agg K.toArray := by rw [hK.out]; rfl
  rw [hKV] at hl0 hme hl1 hl2
  have hme' : (Instr.mapEntry 50 (.map (some bm)) (.agg K.toArray)).run Try.prog W.drew = .ok (.tuple #[v0, .int .i64 (st : Int)]) w1 := hme
  have hes' : (Instr.entryStore 50 (.map (some bm)) (.int .i64 (st : Int)) (.int .i64 ((c : Int) + 1))).run Try.prog w1 = .ok () w2 := hes
  clear hme hes
  have hwr : IntKind.i64.wrap ((c : Int) + 1) = (c : Int) + 1 := IntWalk.i64_in _ (by omega)
  have HKL : Hid (K.length = 18) := Lib.hid (by rw [hK.out]; exact key_size hx _)
  have g0 : W.drew.cell? ⟨bb, 0, none⟩ = some (.map (some bm)) := (HB2.out.drew.cell (p := ⟨bb, 0, none⟩) (lt_of_cell HC.out)).trans HC.out
  have HRK : Hid (W.drew.rangeAt (w.heap.size + 1) 0 K) := Lib.hid (by have := HR2.out.drew.range; simpa using this)
  have HNB := HM.out.ne HC.out
  have hC2 : ∀ p v, W.drew.cell? p = some v → p.block ≠ bm → w2.cell? p = some v := fun p v h hne => (World.cell?_of_block (hc2.block p.block (lt_of_cell h) (by simpa using hne))).trans h
  have HN2 : Hid (w.heap.size + 1 ≠ bm) := Lib.hid (by have := HM.out.lt; omega)
  have q0 := hC2 ⟨bb, 0, none⟩ _ g0 HNB
  have HRK2 : Hid (w2.rangeAt (w.heap.size + 1) 0 K) := Lib.hid (fun j v hv => hC2 _ _ (HRK.out j v hv) HN2.out)
  have HC2 := Lib.hid hc2
  have HM2 := Lib.hid hm2
  obtain ⟨B, hB⟩ : ∃ B : Bool, ((c : Int) + 1 == 1) = B := ⟨_, rfl⟩
  have HBK : Hid (B = true ↔ keyV k g d ∉ ks) := Lib.hid (by
    rw [← hB, ← hck, beq_iff_eq]
    omega)
  clear hc2 hm2 hC2 hck hcn HNB hc1
  simp only [Act.put]
  refine wp_region_any (by kernel_rfl) ?_
  refine wpAny_ready (rs := [0, 1]) (by kernel_rfl) (by simp) ?_
  refine AllReady.cons rfl (fun Kn hK => ?_) (AllReady.cons rfl (fun Kn hK => ?_) AllReady.nil)
  · go_simp
    refine hK _ _ ?_
    clear hK Kn
    refine wpAny_ready (rs := [1]) (by kernel_rfl) (by simp) ?_
    refine AllReady.cons rfl (fun Kn hK => ?_) AllReady.nil
    rw [if_pos (by kernel_rfl)]
    refine wp_load_mid 52 _ rfl (w.heap.size + 1) 0 rfl K _ HRK.out Try.underlying52 rfl (by rw [HKL.out]; kernel_rfl) ?_
    refine hK _ _ ?_
    clear hK Kn
    simp only [Act.put, List.setIfInBounds_toArray, List.set_cons_zero, List.set_cons_succ]
    refine wpAny_ready (rs := [2, 4]) (by kernel_rfl) (by simp) ?_
    refine AllReady.cons rfl (fun Kn hK => ?_) (AllReady.cons rfl (fun Kn hK => ?_) AllReady.nil)
    · go_simp
      refine hK _ _ ?_
      clear hK Kn
      refine wpAny_ready (rs := [3, 4]) (by kernel_rfl) (by simp) ?_
      refine AllReady.cons rfl (fun Kn hK => ?_) (AllReady.cons rfl (fun Kn hK => ?_) AllReady.nil)
      · go_simp
        refine hK _ _ ?_
        clear hK Kn
        refine wpAny_ready (rs := [4]) (by kernel_rfl) (by simp) ?_
        refine AllReady.cons rfl (fun Kn hK => ?_) AllReady.nil
        go_simp
        refine hK _ _ ?_
        clear hK Kn
        refine wpAny_ready (rs := [5]) (by kernel_rfl) (by simp) ?_
        refine AllReady.cons rfl (fun Kn hK => ?_) AllReady.nil
        go_simp
        refine hK _ _ ?_
        clear hK Kn
        refine wpAny_ready (rs := [6]) (by kernel_rfl) (by simp) ?_
        refine AllReady.cons rfl (fun Kn hK => ?_) AllReady.nil
        go_simp
        refine hK _ _ ?_
        clear hK Kn
        refine wpAny_done (by kernel_rfl) ?_ _
        clear hl0 hl1 hme' hes' g0 hwr
        go_wp2_with (refine wpList_load_mid rfl 52 _ rfl (w.heap.size + 1) 0 rfl K _ HRK2.out Try.underlying52 rfl (by rw [HKL.out]; kernel_rfl) ?_)
        go_ret
        exact ⟨B, HBK.out, rfl, HM2.out, (Below.chg HB2.out.drew [bm]).trans HC2.out⟩
      · go_simp
        refine hK _ _ ?_
        clear hK Kn
        refine wpAny_ready (rs := [3, 5]) (by kernel_rfl) (by simp) ?_
        refine AllReady.cons rfl (fun Kn hK => ?_) (AllReady.cons rfl (fun Kn hK => ?_) AllReady.nil)
        · go_simp
          refine hK _ _ ?_
          clear hK Kn
          refine wpAny_ready (rs := [5]) (by kernel_rfl) (by simp) ?_
          refine AllReady.cons rfl (fun Kn hK => ?_) AllReady.nil
          go_simp
          refine hK _ _ ?_
          clear hK Kn
          refine wpAny_ready (rs := [6]) (by kernel_rfl) (by simp) ?_
          refine AllReady.cons rfl (fun Kn hK => ?_) AllReady.nil
          go_simp
          refine hK _ _ ?_
          clear hK Kn
          refine wpAny_done (by kernel_rfl) ?_ _
          clear hl0 hl1 hme' hes' g0 hwr
          go_wp2_with (refine wpList_load_mid rfl 52 _ rfl (w.heap.size + 1) 0 rfl K _ HRK2.out Try.underlying52 rfl (by rw [HKL.out]; kernel_rfl) ?_)
          go_ret
          exact ⟨B, HBK.out, rfl, HM2.out, (Below.chg HB2.out.drew [bm]).trans HC2.out⟩
        · go_simp
          refine hK _ _ ?_
          clear hK Kn
          refine wpAny_ready (rs := [3]) (by kernel_rfl) (by simp) ?_
          refine AllReady.cons rfl (fun Kn hK => ?_) AllReady.nil
          go_simp
          refine hK _ _ ?_
          clear hK Kn
          refine wpAny_ready (rs := [6]) (by kernel_rfl) (by simp) ?_
          refine AllReady.cons rfl (fun Kn hK => ?_) AllReady.nil
          go_simp
          refine hK _ _ ?_
          clear hK Kn
          refine wpAny_done (by kernel_rfl) ?_ _
          clear hl0 hl1 hme' hes' g0 hwr
          go_wp2_with (refine wpList_load_mid rfl 52 _ rfl (w.heap.size + 1) 0 rfl K _ HRK2.out Try.underlying52 rfl (by rw [HKL.out]; kernel_rfl) ?_)
          go_ret
          exact ⟨B, HBK.out, rfl, HM2.out, (Below.chg HB2.out.drew [bm]).trans HC2.out⟩
    · go_simp
      refine hK _ _ ?_
      clear hK Kn
      refine wpAny_ready (rs := [2, 5]) (by kernel_rfl) (by simp) ?_
      refine AllReady.cons rfl (fun Kn hK => ?_) (AllReady.cons rfl (fun Kn hK => ?_) AllReady.nil)
      · go_simp
        refine hK _ _ ?_
        clear hK Kn
        refine wpAny_ready (rs := [3, 5]) (by kernel_rfl) (by simp) ?_
        refine AllReady.cons rfl (fun Kn hK => ?_) (AllReady.cons rfl (fun Kn hK => ?_) AllReady.nil)
        · go_simp
          refine hK _ _ ?_
          clear hK Kn
          refine wpAny_ready (rs := [5]) (by kernel_rfl) (by simp) ?_
          refine AllReady.cons rfl (fun Kn hK => ?_) AllReady.nil
          go_simp
          refine hK _ _ ?_
          clear hK Kn
          refine wpAny_ready (rs := [6]) (by kernel_rfl) (by simp) ?_
          refine AllReady.cons rfl (fun Kn hK => ?_) AllReady.nil
          go_simp
          refine hK _ _ ?_
          clear hK Kn
          refine wpAny_done (by kernel_rfl) ?_ _
          clear hl0 hl1 hme' hes' g0 hwr
          go_wp2_with (refine wpList_load_mid rfl 52 _ rfl (w.heap.size + 1) 0 rfl K _ HRK2.out Try.underlying52 rfl (by rw [HKL.out]; kernel_rfl) ?_)
          go_ret
          exact ⟨B, HBK.out, rfl, HM2.out, (Below.chg HB2.out.drew [bm]).trans HC2.out⟩
        · go_simp
          refine hK _ _ ?_
          clear hK Kn
          refine wpAny_ready (rs := [3]) (by kernel_rfl) (by simp) ?_
          refine AllReady.cons rfl (fun Kn hK => ?_) AllReady.nil
          go_simp
          refine hK _ _ ?_
          clear hK Kn
          refine wpAny_ready (rs := [6]) (by kernel_rfl) (by simp) ?_
          refine AllReady.cons rfl (fun Kn hK => ?_) AllReady.nil
          go_simp
          refine hK _ _ ?_
          clear hK Kn
          refine wpAny_done (by kernel_rfl) ?_ _
          clear hl0 hl1 hme' hes' g0 hwr
          go_wp2_with (refine wpList_load_mid rfl 52 _ rfl (w.heap.size + 1) 0 rfl K _ HRK2.out Try.underlying52 rfl (by rw [HKL.out]; kernel_rfl) ?_)
          go_ret
          exact ⟨B, HBK.out, rfl, HM2.out, (Below.chg HB2.out.drew [bm]).trans HC2.out⟩
      · go_simp
        refine hK _ _ ?_
        clear hK Kn
        refine wpAny_ready (rs := [2]) (by kernel_rfl) (by simp) ?_
        refine AllReady.cons rfl (fun Kn hK => ?_) AllReady.nil
        go_simp
        refine hK _ _ ?_
        clear hK Kn
        refine wpAny_ready (rs := [3]) (by kernel_rfl) (by simp) ?_
        refine AllReady.cons rfl (fun Kn hK => ?_) AllReady.nil
        go_simp
        refine hK _ _ ?_
        clear hK Kn
        refine wpAny_ready (rs := [6]) (by kernel_rfl) (by simp) ?_
        refine AllReady.cons rfl (fun Kn hK => ?_) AllReady.nil
        go_simp
        refine hK _ _ ?_
        clear hK Kn
        refine wpAny_done (by kernel_rfl) ?_ _
        clear hl0 hl1 hme' hes' g0 hwr
        go_wp2_with (refine wpList_load_mid rfl 52 _ rfl (w.heap.size + 1) 0 rfl K _ HRK2.out Try.underlying52 rfl (by rw [HKL.out]; kernel_rfl) ?_)
        go_ret
        exact ⟨B, HBK.out, rfl, HM2.out, (Below.chg HB2.out.drew [bm]).trans HC2.out⟩
  · rw [if_pos (by kernel_rfl)]
    refine wp_load_mid 52 _ rfl (w.heap.size + 1) 0 rfl K _ HRK.out Try.underlying52 rfl (by rw [HKL.out]; kernel_rfl) ?_
    refine hK _ _ ?_
    clear hK Kn
    simp only [Act.put, List.setIfInBounds_toArray, List.set_cons_zero, List.set_cons_succ]
    refine wpAny_ready (rs := [0]) (by kernel_rfl) (by simp) ?_
    refine AllReady.cons rfl (fun Kn hK => ?_) AllReady.nil
    go_simp
    refine hK _ _ ?_
    clear hK Kn
    refine wpAny_ready (rs := [2, 4]) (by kernel_rfl) (by simp) ?_
    refine AllReady.cons rfl (fun Kn hK => ?_) (AllReady.cons rfl (fun Kn hK => ?_) AllReady.nil)
    · go_simp
      refine hK _ _ ?_
      clear hK Kn
      refine wpAny_ready (rs := [3, 4]) (by kernel_rfl) (by simp) ?_
      refine AllReady.cons rfl (fun Kn hK => ?_) (AllReady.cons rfl (fun Kn hK => ?_) AllReady.nil)
      · go_simp
        refine hK _ _ ?_
        clear hK Kn
        refine wpAny_ready (rs := [4]) (by kernel_rfl) (by simp) ?_
        refine AllReady.cons rfl (fun Kn hK => ?_) AllReady.nil
        go_simp
        refine hK _ _ ?_
        clear hK Kn
        refine wpAny_ready (rs := [5]) (by kernel_rfl) (by simp) ?_
        refine AllReady.cons rfl (fun Kn hK => ?_) AllReady.nil
        go_simp
        refine hK _ _ ?_
        clear hK Kn
        refine wpAny_ready (rs := [6]) (by kernel_rfl) (by simp) ?_
        refine AllReady.cons rfl (fun Kn hK => ?_) AllReady.nil
        go_simp
        refine hK _ _ ?_
        clear hK Kn
        refine wpAny_done (by kernel_rfl) ?_ _
        clear hl0 hl1 hme' hes' g0 hwr
        go_wp2_with (refine wpList_load_mid rfl 52 _ rfl (w.heap.size + 1) 0 rfl K _ HRK2.out Try.underlying52 rfl (by rw [HKL.out]; kernel_rfl) ?_)
        go_ret
        exact ⟨B, HBK.out, rfl, HM2.out, (Below.chg HB2.out.drew [bm]).trans HC2.out⟩
      · go_simp
        refine hK _ _ ?_
        clear hK Kn
        refine wpAny_ready (rs := [3, 5]) (by kernel_rfl) (by simp) ?_
        refine AllReady.cons rfl (fun Kn hK => ?_) (AllReady.cons rfl (fun Kn hK => ?_) AllReady.nil)
        · go_simp
          refine hK _ _ ?_
          clear hK Kn
          refine wpAny_ready (rs := [5]) (by kernel_rfl) (by simp) ?_
          refine AllReady.cons rfl (fun Kn hK => ?_) AllReady.nil
          go_simp
          refine hK _ _ ?_
          clear hK Kn
          refine wpAny_ready (rs := [6]) (by kernel_rfl) (by simp) ?_
          refine AllReady.cons rfl (fun Kn hK => ?_) AllReady.nil
          go_simp
          refine hK _ _ ?_
          clear hK Kn
          refine wpAny_done (by kernel_rfl) ?_ _
          clear hl0 hl1 hme' hes' g0 hwr
          go_wp2_with (refine wpList_load_mid rfl 52 _ rfl (w.heap.size + 1) 0 rfl K _ HRK2.out Try.underlying52 rfl (by rw [HKL.out]; kernel_rfl) ?_)
          go_ret
          exact ⟨B, HBK.out, rfl, HM2.out, (Below.chg HB2.out.drew [bm]).trans HC2.out⟩
        · go_simp
          refine hK _ _ ?_
          clear hK Kn
          refine wpAny_ready (rs := [3]) (by kernel_rfl) (by simp) ?_
          refine AllReady.cons rfl (fun Kn hK => ?_) AllReady.nil
          go_simp
          refine hK _ _ ?_
          clear hK Kn
          refine wpAny_ready (rs := [6]) (by kernel_rfl) (by simp) ?_
          refine AllReady.cons rfl (fun Kn hK => ?_) AllReady.nil
          go_simp
          refine hK _ _ ?_
          clear hK Kn
          refine wpAny_done (by kernel_rfl) ?_ _
          clear hl0 hl1 hme' hes' g0 hwr
          go_wp2_with (refine wpList_load_mid rfl 52 _ rfl (w.heap.size + 1) 0 rfl K _ HRK2.out Try.underlying52 rfl (by rw [HKL.out]; kernel_rfl) ?_)
          go_ret
          exact ⟨B, HBK.out, rfl, HM2.out, (Below.chg HB2.out.drew [bm]).trans HC2.out⟩
    · go_simp
      refine hK _ _ ?_
      clear hK Kn
      refine wpAny_ready (rs := [2, 5]) (by kernel_rfl) (by simp) ?_
      refine AllReady.cons rfl (fun Kn hK => ?_) (AllReady.cons rfl (fun Kn hK => ?_) AllReady.nil)
      · go_simp
        refine hK _ _ ?_
        clear hK Kn
        refine wpAny_ready (rs := [3, 5]) (by kernel_rfl) (by simp) ?_
        refine AllReady.cons rfl (fun Kn hK => ?_) (AllReady.cons rfl (fun Kn hK => ?_) AllReady.nil)
        · go_simp
          refine hK _ _ ?_
          clear hK Kn
          refine wpAny_ready (rs := [5]) (by kernel_rfl) (by simp) ?_
          refine AllReady.cons rfl (fun Kn hK => ?_) AllReady.nil
          go_simp
          refine hK _ _ ?_
          clear hK Kn
          refine wpAny_ready (rs := [6]) (by kernel_rfl) (by simp) ?_
          refine AllReady.cons rfl (fun Kn hK => ?_) AllReady.nil
          go_simp
          refine hK _ _ ?_
          clear hK Kn
          refine wpAny_done (by kernel_rfl) ?_ _
          clear hl0 hl1 hme' hes' g0 hwr
          go_wp2_with (refine wpList_load_mid rfl 52 _ rfl (w.heap.size + 1) 0 rfl K _ HRK2.out Try.underlying52 rfl (by rw [HKL.out]; kernel_rfl) ?_)
          go_ret
          exact ⟨B, HBK.out, rfl, HM2.out, (Below.chg HB2.out.drew [bm]).trans HC2.out⟩
        · go_simp
          refine hK _ _ ?_
          clear hK Kn
          refine wpAny_ready (rs := [3]) (by kernel_rfl) (by simp) ?_
          refine AllReady.cons rfl (fun Kn hK => ?_) AllReady.nil
          go_simp
          refine hK _ _ ?_
          clear hK Kn
          refine wpAny_ready (rs := [6]) (by kernel_rfl) (by simp) ?_
          refine AllReady.cons rfl (fun Kn hK => ?_) AllReady.nil
          go_simp
          refine hK _ _ ?_
          clear hK Kn
          refine wpAny_done (by kernel_rfl) ?_ _
          clear hl0 hl1 hme' hes' g0 hwr
          go_wp2_with (refine wpList_load_mid rfl 52 _ rfl (w.heap.size + 1) 0 rfl K _ HRK2.out Try.underlying52 rfl (by rw [HKL.out]; kernel_rfl) ?_)
          go_ret
          exact ⟨B, HBK.out, rfl, HM2.out, (Below.chg HB2.out.drew [bm]).trans HC2.out⟩
      · go_simp
        refine hK _ _ ?_
        clear hK Kn
        refine wpAny_ready (rs := [2]) (by kernel_rfl) (by simp) ?_
        refine AllReady.cons rfl (fun Kn hK => ?_) AllReady.nil
        go_simp
        refine hK _ _ ?_
        clear hK Kn
        refine wpAny_ready (rs := [3]) (by kernel_rfl) (by simp) ?_
        refine AllReady.cons rfl (fun Kn hK => ?_) AllReady.nil
        go_simp
        refine hK _ _ ?_
        clear hK Kn
        refine wpAny_ready (rs := [6]) (by kernel_rfl) (by simp) ?_
        refine AllReady.cons rfl (fun Kn hK => ?_) AllReady.nil
        go_simp
        refine hK _ _ ?_
        clear hK Kn
        refine wpAny_done (by kernel_rfl) ?_ _
        clear hl0 hl1 hme' hes' g0 hwr
        go_wp2_with (refine wpList_load_mid rfl 52 _ rfl (w.heap.size + 1) 0 rfl K _ HRK2.out Try.underlying52 rfl (by rw [HKL.out]; kernel_rfl) ?_)
        go_ret
        exact ⟨B, HBK.out, rfl, HM2.out, (Below.chg HB2.out.drew [bm]).trans HC2.out⟩
end Go.Proofs.Ytilanncobbdlfaa

/-
  What Merge keeps, as a plain law.
-/
namespace Go.Proofs.Ytilanncobbdlfaa
open Go Go.RowKit
set_option linter.unusedVariables false

/-- Those of a list's items that were not met before. -/
def keepI (k : Int) : List (Int × It) → List It → List It
  | _, [] => []
  | ks, x :: l => if (k, x) ∈ ks then keepI k ((k, x) :: ks) l else x :: keepI k ((k, x) :: ks) l
/-- What has been met behind them. -/
def keysI (k : Int) (ks : List (Int × It)) (l : List It) : List (Int × It) := l.foldl (fun acc x => (k, x) :: acc) ks
theorem keysI_nil (k : Int) (ks : List (Int × It)) : keysI k ks [] = ks := rfl
theorem keysI_cons (k : Int) (ks : List (Int × It)) (x : It) (l : List It) : keysI k ks (x :: l) = keysI k ((k, x) :: ks) l := rfl
theorem keysI_snoc (k : Int) (ks : List (Int × It)) (l : List It) (x : It) : keysI k ks (l ++ [x]) = (k, x) :: keysI k ks l := by
  unfold keysI
  rw [List.foldl_append]
  rfl
theorem mem_keysI (k : Int) (p : Int × It) : ∀ (l : List It) (ks : List (Int × It)), p ∈ keysI k ks l ↔ p ∈ ks ∨ (p.1 = k ∧ p.2 ∈ l)
  | [], ks => by simp [keysI_nil]
  | x :: l, ks => by
    rw [keysI_cons, mem_keysI k p l, List.mem_cons, List.mem_cons]
    constructor
    · rintro ((rfl | h) | ⟨h1, h2⟩)
      · exact .inr ⟨rfl, .inl rfl⟩
      · exact .inl h
      · exact .inr ⟨h1, .inr h2⟩
    · rintro (h | ⟨h1, h2 | h2⟩)
      · exact .inl (.inr h)
      · exact .inl (.inl (Prod.ext h1 h2))
      · exact .inr ⟨h1, h2⟩
theorem keepI_snoc (k : Int) (x : It) : ∀ (l : List It) (ks : List (Int × It)), keepI k ks (l ++ [x]) = keepI k ks l ++ (if (k, x) ∈ keysI k ks l then [] else [x])
  | [], ks => by
    rw [List.nil_append, keysI_nil]
    rfl
  | y :: l, ks => by
    rw [List.cons_append]
    simp only [keepI]
    rw [keepI_snoc k x l, keysI_cons]
    split <;> simp
theorem keepI_sub (k : Int) : ∀ (l : List It) (ks : List (Int × It)), ∀ y ∈ keepI k ks l, y ∈ l
  | [], _, y, h => by simp [keepI] at h
  | x :: l, ks, y, h => by
    simp only [keepI] at h
    split at h
    · exact List.mem_cons_of_mem _ (keepI_sub k l _ y h)
    · rcases List.mem_cons.1 h with rfl | h
      · exact List.mem_cons_self
      · exact List.mem_cons_of_mem _ (keepI_sub k l _ y h)
/-- What is met behind them, as a set: what was met, and what was kept. -/
theorem mem_keep (k : Int) (p : Int × It) : ∀ (l : List It) (ks : List (Int × It)), p ∈ keysI k ks l ↔ p ∈ ks ∨ (p.1 = k ∧ p.2 ∈ keepI k ks l)
  | [], ks => by simp [keysI_nil, keepI]
  | x :: l, ks => by
    rw [keysI_cons, mem_keep k p l, List.mem_cons]
    simp only [keepI]
    split
    · rename_i h
      constructor
      · rintro ((rfl | h2) | h2)
        · exact .inl h
        · exact .inl h2
        · exact .inr h2
      · rintro (h2 | h2)
        · exact .inl (.inr h2)
        · exact .inr h2
    · rw [List.mem_cons]
      constructor
      · rintro ((rfl | h2) | ⟨h2, h3⟩)
        · exact .inr ⟨rfl, .inl rfl⟩
        · exact .inl h2
        · exact .inr ⟨h2, .inr h3⟩
      · rintro (h2 | ⟨h2, h3 | h3⟩)
        · exact .inl (.inr h2)
        · exact .inl (.inl (Prod.ext h2 h3))
        · exact .inr ⟨h2, h3⟩
/-- What stands in lists. -/
def keysL (ls : List Li) : List (Int × It) := ls.foldl (fun acc x => keysI x.k acc x.i) []
theorem keysL_snoc (ls : List Li) (x : Li) : keysL (ls ++ [x]) = keysI x.k (keysL ls) x.i := by
  unfold keysL
  rw [List.foldl_append]
  rfl
def inL (ls : List Li) (p : Int × It) : Prop := ∃ y ∈ ls, y.k = p.1 ∧ p.2 ∈ y.i
theorem mem_foldK (p : Int × It) : ∀ (ls : List Li) (acc : List (Int × It)), p ∈ ls.foldl (fun acc x => keysI x.k acc x.i) acc ↔ p ∈ acc ∨ inL ls p
  | [], acc => by simp [inL]
  | x :: ls, acc => by
    rw [List.foldl_cons, mem_foldK p ls, mem_keysI]
    unfold inL
    constructor
    · rintro ((h | ⟨h1, h2⟩) | ⟨y, hy, h⟩)
      · exact .inl h
      · exact .inr ⟨x, List.mem_cons_self, h1.symm, h2⟩
      · exact .inr ⟨y, List.mem_cons_of_mem _ hy, h⟩
    · rintro (h | ⟨y, hy, h1, h2⟩)
      · exact .inl (.inl h)
      · rcases List.mem_cons.1 hy with rfl | hy
        · exact .inl (.inr ⟨h1.symm, h2⟩)
        · exact .inr ⟨y, hy, h1, h2⟩
theorem mem_keysL (p : Int × It) (ls : List Li) : p ∈ keysL ls ↔ inL ls p := by
  unfold keysL
  rw [mem_foldK]
  simp
/-- A list put behind, if anything of it is left. -/
def addL (l : List Li) (ks : List (Int × It)) (x : Li) : List Li := if keepI x.k ks x.i = [] then l else l ++ [⟨x.k, keepI x.k ks x.i⟩]
def mergeL : List Li → List (Int × It) → List Li → List Li
  | l, _, [] => l
  | l, ks, x :: m => mergeL (addL l ks x) (keysI x.k ks x.i) m
/-- The step of Merge, over a beginning of the second lists. -/
def mrgA (l m : List Li) (j : Nat) : List Li := mergeL l (keysL l) (m.take j)
def mrgK (l m : List Li) (j : Nat) : List (Int × It) := (m.take j).foldl (fun acc x => keysI x.k acc x.i) (keysL l)
theorem mergeL_snoc (x : Li) : ∀ (m l : List Li) (ks : List (Int × It)), mergeL l ks (m ++ [x]) = addL (mergeL l ks m) (m.foldl (fun acc x => keysI x.k acc x.i) ks) x
  | [], l, ks => rfl
  | y :: m, l, ks => by
    rw [List.cons_append]
    simp only [mergeL, List.foldl_cons]
    exact mergeL_snoc x m _ _
theorem mrgA_zero (l m : List Li) : mrgA l m 0 = l := by unfold mrgA; rw [List.take_zero]; rfl
theorem mrgK_zero (l m : List Li) : mrgK l m 0 = keysL l := by unfold mrgK; rw [List.take_zero]; rfl
theorem mrgA_step {l m : List Li} {j : Nat} {x : Li} (h : m[j]? = some x) : mrgA l m (j + 1) = addL (mrgA l m j) (mrgK l m j) x := by
  unfold mrgA mrgK
  rw [take_at h, mergeL_snoc]
theorem mrgK_step {l m : List Li} {j : Nat} {x : Li} (h : m[j]? = some x) : mrgK l m (j + 1) = keysI x.k (mrgK l m j) x.i := by
  unfold mrgK
  rw [take_at h, List.foldl_append]
  rfl
/-- What has been met is what stands in the merged lists. -/
theorem inL_addL (l : List Li) (ks : List (Int × It)) (x : Li) (h : ∀ p, p ∈ ks ↔ inL l p) (p : Int × It) : p ∈ keysI x.k ks x.i ↔ inL (addL l ks x) p := by
  rw [mem_keep, h]
  unfold addL
  split
  · rename_i e
    rw [e]
    simp
  · unfold inL
    constructor
    · rintro (⟨y, hy, h1⟩ | ⟨h1, h2⟩)
      · exact ⟨y, List.mem_append_left _ hy, h1⟩
      · exact ⟨_, List.mem_append_right _ (List.mem_singleton.2 rfl), h1.symm, h2⟩
    · rintro ⟨y, hy, h1, h2⟩
      rcases List.mem_append.1 hy with hy | hy
      · exact .inl ⟨y, hy, h1, h2⟩
      · rw [List.mem_singleton.1 hy] at h1 h2
        exact .inr ⟨h1.symm, h2⟩
theorem inL_mrg (l m : List Li) : ∀ j, j ≤ m.length → ∀ p, p ∈ mrgK l m j ↔ inL (mrgA l m j) p
  | 0, _, p => by rw [mrgK_zero, mrgA_zero, mem_keysL]
  | j + 1, hj, p => by
    obtain ⟨x, hx⟩ : ∃ x, m[j]? = some x := ⟨m[j], by simp⟩
    rw [mrgK_step hx, mrgA_step hx]
    exact inL_addL _ _ _ (inL_mrg l m j (by omega)) p
/-- What is merged may be written. -/
theorem riB_keep {x : Li} (h : riB x = true) (ks : List (Int × It)) (hne : keepI x.k ks x.i ≠ []) : riB ⟨x.k, keepI x.k ks x.i⟩ = true := by
  obtain ⟨h1, h2⟩ := ri_all h
  cases e : keepI x.k ks x.i with
  | nil => exact absurd e hne
  | cons y0 r =>
    have hs : ∀ y ∈ y0 :: r, y ∈ x.i := fun y hy => keepI_sub x.k x.i ks y (by rw [e]; exact hy)
    have h0 : szL ⟨x.k, y0 :: r⟩ = szL x := (h1 y0 (hs y0 (by simp))).2
    unfold riB
    rw [Bool.and_eq_true, List.all_eq_true, decide_eq_true_iff]
    exact ⟨fun y hy => by rw [h0]; have := h1 y (hs y hy); simp [this], by simp⟩
theorem wrB_app (a b : List Li) : wrB (a ++ b) = (wrB a && wrB b) := by
  unfold wrB
  simp
theorem wrB_addL {l : List Li} {ks : List (Int × It)} {x : Li} (hl : wrB l = true) (hx : riB x = true) : wrB (addL l ks x) = true := by
  unfold addL
  split
  · exact hl
  · rename_i hne
    rw [wrB_app, hl, Bool.true_and]
    rw [wrB_cons]
    exact ⟨riB_keep hx ks hne, rfl⟩
theorem wrB_mrg {l m : List Li} (hl : wrB l = true) (hm : wrB m = true) : ∀ j, j ≤ m.length → wrB (mrgA l m j) = true
  | 0, _ => by rw [mrgA_zero]; exact hl
  | j + 1, hj => by
    obtain ⟨x, hx⟩ : ∃ x, m[j]? = some x := ⟨m[j], by simp⟩
    rw [mrgA_step hx]
    refine wrB_addL (wrB_mrg hl hm j (by omega)) ?_
    unfold wrB at hm
    exact List.all_eq_true.1 hm x (List.mem_of_getElem? hx)
theorem OwnO_mrg {l m : List Li} (hl : OwnO l) (hm : OwnO m) : ∀ j, j ≤ m.length → OwnO (mrgA l m j)
  | 0, _ => by rw [mrgA_zero]; exact hl
  | j + 1, hj => by
    obtain ⟨x, hx⟩ : ∃ x, m[j]? = some x := ⟨m[j], by simp⟩
    rw [mrgA_step hx]
    have ih := OwnO_mrg hl hm j (by omega)
    unfold addL
    split
    · exact ih
    · intro y hy z hz
      rcases List.mem_append.1 hy with hy | hy
      · exact ih y hy z hz
      · rw [List.mem_singleton.1 hy] at hz
        exact hm x (List.mem_of_getElem? hx) z (keepI_sub _ _ _ _ hz)
end Go.Proofs.Ytilanncobbdlfaa

/-
  Merge's second closure, what it stands on; slices.IndexFunc over it.
-/
namespace Go.Proofs.Ytilanncobbdlfaa
open Go Go.RowKit
set_option linter.unusedVariables false

/-- An item's key, as a value. -/
def kv (p : Int × It) : Value := keyV p.1 p.2.o p.2.d
theorem kv_mem {p : Int × It} {ks : List (Int × It)} (hp : p.2.o.length = 16) (hks : ∀ q ∈ ks, q.2.o.length = 16) : kv p ∈ ks.map kv ↔ p ∈ ks := by
  constructor
  · intro h
    obtain ⟨q, hq, e⟩ := List.mem_map.1 h
    obtain ⟨k, o, d⟩ := p
    obtain ⟨k', o', d'⟩ := q
    obtain ⟨rfl, rfl, rfl⟩ := keyV_inj (hks _ hq) hp e
    exact hq
  · exact fun h => List.mem_map.2 ⟨p, h, rfl⟩
theorem Rd.chgM {w w' : World} {size n bm m : Nat} {v : Value} {xs ks : List Value} (h : Rd w size v n xs) (hm : MapK w bm ks m) (hc : Chg [bm] w w') : Rd w' size v n xs := by
  obtain ⟨a, c, e, h1, h2, h3, h4⟩ := h
  refine ⟨a, c, e, h1, h2, h3, fun j u hj => ?_⟩
  obtain ⟨b, off, e2, h5⟩ := h4 j u hj
  exact ⟨b, off, e2, hc.cell h5 (by simpa using hm.ne h5)⟩
theorem Byt.chgM {w w' : World} {bm m : Nat} {v : Value} {l : List UInt8} {ks : List Value} (h : Byt w v l) (hm : MapK w bm ks m) (hc : Chg [bm] w w') : Byt w' v l := Rd.chgM h hm hc
theorem Its.chgM {w w' : World} {bm m : Nat} {v : Value} {xs : List ItV} {ks : List Value} (h : Its w v xs) (hm : MapK w bm ks m) (hc : Chg [bm] w w') : Its w' v xs := ⟨h.row.chgM hm hc, h.len, fun x hx => (h.byt x hx).chgM hm hc⟩
theorem Lis.chgM {w w' : World} {bm m : Nat} {v : Value} {xs : List LiV} {ks : List Value} (h : Lis w v xs) (hm : MapK w bm ks m) (hc : Chg [bm] w w') : Lis w' v xs := ⟨h.row.chgM hm hc, h.kind, fun x hx => (h.its x hx).chgM hm hc⟩
theorem Own.neM {w : World} {base e size n bm m : Nat} {v : Value} {xs ks : List Value} (h : Own w base e size v n xs) (hm : MapK w bm ks m) : ownB v ≠ some bm := by
  intro e0
  rcases h.2 with ⟨a, rfl, _⟩ | ⟨g, cap, cur, rfl, hb, hg, _, h0, _⟩
  · cases a <;> simp [ownB] at e0
  · rw [ownB_some h0] at e0
    cases e0
    obtain ⟨es, clock, hb, _⟩ := hm.ex
    rw [hg] at hb
    cases hb
theorem Own.chgM {w w' : World} {base e size n bm m : Nat} {v : Value} {xs ks : List Value} (h : Own w base e size v n xs) (hm : MapK w bm ks m) (hc : Chg [bm] w w') : Own w' base e size v n xs :=
  h.chg hc (fun x hx => by rw [List.mem_singleton.1 hx]; exact h.neM hm)
theorem OwnIts.chgM {w w' : World} {base bm m : Nat} {v : Value} {xs : List ItV} {ks : List Value} (h : OwnIts w base v xs) (hm : MapK w bm ks m) (hc : Chg [bm] w w') : OwnIts w' base v xs :=
  ⟨h.row.chgM hm hc, h.len, fun x hx => Own.chgM (h.byt x hx) hm hc⟩
theorem OwnLis.chgM {w w' : World} {base bm m : Nat} {v : Value} {xs : List LiV} {ks : List Value} (h : OwnLis w base v xs) (hm : MapK w bm ks m) (hc : Chg [bm] w w') : OwnLis w' base v xs :=
  ⟨h.row.chgM hm hc, h.kind, fun x hx => (h.its x hx).chgM hm hc, h.len, fun x hx y hy => Own.chgM (h.byt x hx y hy) hm hc, h.part⟩

/-- What the closure stands on: fresh's box, the list's box, the map's box, the map. -/
structure DelS (w : World) (bf bx bb bm : Nat) (k : Int) (ks : List (Int × It)) (n : Nat) : Prop where
  cf : w.cell? ⟨bf, 0, none⟩ = some (.func (.func 25) #[] #[.pointer (some ⟨bb, 0, none⟩)])
  ck : w.cell? ⟨bx, 0, none⟩ = some (.int .u8 k)
  cm : w.cell? ⟨bb, 0, none⟩ = some (.map (some bm))
  mp : MapK w bm (ks.map kv) n
  ow : ∀ q ∈ ks, q.2.o.length = 16
theorem DelS.chg {w w' : World} {bf bx bb bm n : Nat} {k : Int} {ks : List (Int × It)} {L : List Nat} (h : DelS w bf bx bb bm k ks n) (hc : Chg L w w') (h1 : bf ∉ L) (h2 : bx ∉ L) (h3 : bb ∉ L) (h4 : bm ∉ L) : DelS w' bf bx bb bm k ks n :=
  ⟨hc.cell h.cf h1, hc.cell h.ck h2, hc.cell h.cm h3, h.mp.chg hc h4, h.ow⟩
theorem DelS.step {w w' : World} {bf bx bb bm n n' : Nat} {k : Int} {ks ks' : List (Int × It)} (h : DelS w bf bx bb bm k ks n) (hc : Chg [bm] w w') (hm : MapK w' bm (ks'.map kv) n') (ho : ∀ q ∈ ks', q.2.o.length = 16) : DelS w' bf bx bb bm k ks' n' :=
  ⟨hc.cell h.cf (by simpa using h.mp.ne h.cf), hc.cell h.ck (by simpa using h.mp.ne h.ck), hc.cell h.cm (by simpa using h.mp.ne h.cm), hm, ho⟩
theorem DelS.below {w w' : World} {bf bx bb bm n : Nat} {k : Int} {ks : List (Int × It)} (h : DelS w bf bx bb bm k ks n) (hb : Below w.heap.size w w') : DelS w' bf bx bb bm k ks n :=
  h.chg (L := []) (Below.chg hb []) (by simp) (by simp) (by simp) (by simp)

theorem not_iff_of {B : Bool} {P : Prop} (h : B = true ↔ ¬ P) : (!B) = true ↔ P := by
  cases B with
  | false => exact ⟨fun _ => Classical.byContradiction (fun hp => absurd (h.2 hp) (by decide)), fun _ => rfl⟩
  | true => exact ⟨fun e => (by cases e), fun hp => absurd hp (h.1 rfl)⟩
set_option maxRecDepth 100000 in
set_option maxHeartbeats 4000000 in
theorem del_calls (x : ItV) (w : World) (bf bx bb bm n : Nat) (k : Int) (ks : List (Int × It)) (hk : 0 ≤ k ∧ k ≤ 255) (hx : x.o.length = 16) (hd : Byt w x.v x.d) (hdl : x.d.length ≤ 1000000000) (hS : DelS w bf bx bb bm k ks n) (hn : n ≤ 4611686018427387904) :
    Calls Try.prog 27 #[.agg (itC x).toArray, .pointer (some ⟨bf, 0, none⟩), .pointer (some ⟨bx, 0, none⟩)] w fun e w' => ∃ B : Bool, (B = true ↔ (k, x.it) ∈ ks) ∧ e = .returned (.bool B) ∧ DelS w' bf bx bb bm k ((k, x.it) :: ks) (n + 1) ∧ Chg [bm] w w' := by
  have HD := Lib.hid hd
  have HS := Lib.hid hS
  have HX1 := Lib.hid (itC_oneCell x hd.oneCell)
  have HXL := Lib.hid (itC_length x hx)
  obtain ⟨X, hX⟩ : ∃ X, Hid (X = itC x) := ⟨_, Lib.hid rfl⟩
  rw [← hX.out] at HX1 HXL ⊢
  clear hd hS
  have HB1 := Lib.hid ((Below.refl w.heap.size w).alloc (Nat.le_refl _) (.cells X.toArray 49))
  have HR1 := Lib.hid (RowAt.new w X.toArray 49 w.heap.size rfl)
  have HS1 := Lib.hid (HS.out.below HB1.out)
  have HRG : Hid ((w.alloc (.cells X.toArray 49)).rangeAt w.heap.size 0 X) := Lib.hid (by have := HR1.out.range; simpa using this)
  have HF := Lib.hid (fresh_calls k x (w.alloc (.cells X.toArray 49)) bb bm n (ks.map kv) hk hx (HD.out.below HB1.out) hdl HS1.out.cm HS1.out.mp hn)
  rw [← hX.out] at HF
  have c1 := HS1.out.cf
  have c2 := HS1.out.ck
  go_enter Try.func27, Try.ntmps27
  go_wp2_with (first
    | (refine wpList_load_mid rfl 49 _ rfl w.heap.size 0 rfl X _ HRG.out Try.underlying49 rfl (by rw [HXL.out]; kernel_rfl) ?_; clear c1 c2)
    | fail)
  refine HF.out.mono ?_
  rintro e w1 ⟨B, hB, rfl, hm, hc⟩
  have hB' : B = true ↔ (k, x.it) ∉ ks := hB.trans (not_congr (kv_mem (p := (k, x.it)) hx HS.out.ow))
  have HE : Hid (∃ B', (B' = true ↔ (k, x.it) ∈ ks) ∧ B' = !B) := Lib.hid ⟨!B, not_iff_of hB', rfl⟩
  have HS2 := Lib.hid (HS1.out.step (ks' := (k, x.it) :: ks) hc hm (fun q hq => by
    rcases List.mem_cons.1 hq with rfl | hq
    · exact hx
    · exact HS.out.ow q hq))
  have HC2 := Lib.hid ((Below.chg HB1.out [bm]).trans hc)
  clear hB hB' hm hc
  go_wp2
  go_ret
  obtain ⟨B', h1, rfl⟩ := HE.out
  exact ⟨_, h1, rfl, HS2.out, HC2.out⟩
end Go.Proofs.Ytilanncobbdlfaa

/-
  Cells of an owned row written: an item, the rest cleared.
-/
namespace Go.Proofs.Ytilanncobbdlfaa
open Go Go.RowKit
set_option linter.unusedVariables false

theorem Own.setAt {w : World} {base e size n g cap : Nat} {xs : List Value} (h : Own w base e size (.slice (some ⟨g, 0, none⟩) n cap) n xs) (i : Nat) (u : Value) :
    Own (w.setCell ⟨g, i, none⟩ u) base e size (.slice (some ⟨g, 0, none⟩) n cap) n (xs.set i u) := by
  obtain ⟨hl, h⟩ := h
  refine ⟨by simpa using hl, ?_⟩
  rcases h with ⟨a', e1, rfl⟩ | ⟨g', cap', cur, e1, hb, hg, h1, h0, h2, h3, h4⟩
  · simp only [Value.slice.injEq] at e1
    obtain ⟨_, _, rfl⟩ := e1
    exact .inl ⟨_, rfl, rfl⟩
  · simp only [Value.slice.injEq, Option.some.injEq, Addr.mk.injEq] at e1
    obtain ⟨⟨rfl, _⟩, _, rfl⟩ := e1
    refine .inr ⟨g, cap, cur.setIfInBounds i u, rfl, hb, ?_, h1, h0, h2, by simpa using h3, ?_⟩
    · simp only [World.setCell, Array.getElem?_modify, hg]
      simp
    · rw [← h4, Array.toList_setIfInBounds, List.take_set]
/-- Values written one behind another. -/
def setL : List Value → Nat → List Value → List Value
  | xs, _, [] => xs
  | xs, o, v :: r => setL (xs.set o v) (o + 1) r
theorem setL_length : ∀ (vs xs : List Value) (o : Nat), (setL xs o vs).length = xs.length
  | [], _, _ => rfl
  | v :: r, xs, o => by
    rw [setL, setL_length r, List.length_set]
theorem setL_at : ∀ (vs xs : List Value) (o r : Nat), o + vs.length ≤ xs.length → (setL xs o vs)[r]? = if o ≤ r ∧ r < o + vs.length then vs[r - o]? else xs[r]?
  | [], xs, o, r, _ => by
    rw [setL, if_neg (by simp)]
  | v :: l, xs, o, r, h => by
    rw [List.length_cons] at h ⊢
    rw [setL, setL_at l (xs.set o v) (o + 1) r (by rw [List.length_set]; omega)]
    by_cases h1 : o + 1 ≤ r ∧ r < o + 1 + l.length
    · rw [if_pos h1, if_pos (by omega), show r - o = (r - (o + 1)) + 1 by omega, List.getElem?_cons_succ]
    · rw [if_neg h1]
      by_cases h2 : o = r
      · subst h2
        rw [if_pos (by omega), Nat.sub_self, List.getElem?_cons_zero, List.getElem?_set_self (by omega)]
      · rw [if_neg (by omega), List.getElem?_set_ne h2]
theorem setL_past : ∀ (vs xs : List Value) (o : Nat), xs.length ≤ o → setL xs o vs = xs
  | [], _, _, _ => rfl
  | v :: r, xs, o, h => by
    rw [setL, List.set_eq_of_length_le h, setL_past r xs (o + 1) (by omega)]
theorem Own.setCells {base e size n g cap : Nat} : ∀ (vs xs : List Value) (w : World) (o : Nat), Own w base e size (.slice (some ⟨g, 0, none⟩) n cap) n xs → Own (w.setCells g o vs) base e size (.slice (some ⟨g, 0, none⟩) n cap) n (setL xs o vs)
  | [], _, _, _, h => h
  | v :: r, xs, w, o, h => Own.setCells r _ _ _ (h.setAt o v)
theorem Chg.setCells {L : List Nat} {a : World} {b : Nat} (hb : b ∈ L) : ∀ (vs : List Value) (w : World) (o : Nat), Chg L a w → Chg L a (w.setCells b o vs)
  | [], _, _, h => h
  | v :: r, w, o, h => Chg.setCells hb r _ _ (h.setCell hb v)
theorem Own.there {w : World} {base e size n g cap : Nat} {xs : List Value} (h : Own w base e size (.slice (some ⟨g, 0, none⟩) n cap) n xs) {o m : Nat} (hm : o + m ≤ n * size) (h0 : 0 < n) : w.there g o m := by
  obtain ⟨hl, h⟩ := h
  intro j hj
  rcases h with ⟨a', e1, rfl⟩ | ⟨g', cap', cur, e1, hb, hg, h1, h0, h2, h3, h4⟩
  · omega
  · simp only [Value.slice.injEq, Option.some.injEq, Addr.mk.injEq] at e1
    obtain ⟨⟨rfl, _⟩, _, rfl⟩ := e1
    have hle : n * size ≤ cap * size := Nat.mul_le_mul_right _ h1
    refine ⟨?_, by simp [World.frozen?, hg]⟩
    rw [cell_of_row w g (o + j) cur e (0, 0) hg, Array.getElem?_eq_getElem (by omega)]
    rfl
/-- An item written into a row of items. -/
theorem itsC_set (zs : List ItV) (hz : ∀ z ∈ zs, z.o.length = 16) (i : Nat) (x : ItV) (hx : x.o.length = 16) (hi : i < zs.length) : setL (itsC zs) (i * 17) (itC x) = itsC (zs.set i x) := by
  have hl : (itsC zs).length = zs.length * 17 := chunk_length itC 17 zs (fun z hm => itC_length z (hz z hm))
  have hz2 : ∀ z ∈ zs.set i x, z.o.length = 16 := fun z hm => by
    rcases List.mem_or_eq_of_mem_set hm with hm | rfl
    · exact hz z hm
    · exact hx
  have hl2 : (itsC (zs.set i x)).length = zs.length * 17 := by rw [show (itsC (zs.set i x)).length = (zs.set i x).length * 17 from chunk_length itC 17 _ (fun z hm => itC_length z (hz2 z hm)), List.length_set]
  have hxl := itC_length x hx
  have hi17 : i * 17 + 17 ≤ zs.length * 17 := by omega
  apply List.ext_getElem?
  intro r
  by_cases hr : r < zs.length * 17
  · obtain ⟨q, s, hs, rfl⟩ : ∃ q s, s < 17 ∧ r = q * 17 + s := ⟨r / 17, r % 17, Nat.mod_lt _ (by omega), by omega⟩
    have hq : q < zs.length := by omega
    rw [setL_at _ _ _ _ (by rw [hl, hxl]; exact hi17), hxl]
    by_cases hqi : q = i
    · subst hqi
      have hx' : (zs.set q x)[q]? = some x := List.getElem?_set_self hi
      rw [if_pos (by omega), show q * 17 + s - q * 17 = s by omega]
      exact (chunk_at itC 17 (zs.set q x) (fun z hm => itC_length z (hz2 z hm)) q s x hx' hs).symm
    · have hq1 : zs[q]? = some zs[q] := List.getElem?_eq_getElem hq
      have hq2 : (zs.set i x)[q]? = some zs[q] := by rw [List.getElem?_set_ne (Ne.symm hqi)]; exact hq1
      rw [if_neg (by omega)]
      exact (chunk_at itC 17 zs (fun z hm => itC_length z (hz z hm)) q s _ hq1 hs).trans (chunk_at itC 17 (zs.set i x) (fun z hm => itC_length z (hz2 z hm)) q s _ hq2 hs).symm
  · rw [List.getElem?_eq_none (by rw [setL_length, hl]; omega), List.getElem?_eq_none (by rw [hl2]; omega)]
theorem OwnIts.setItem {w : World} {base n g cap : Nat} {zs : List ItV} (h : OwnIts w base (.slice (some ⟨g, 0, none⟩) n cap) zs) (hn : n = zs.length) (hc : 0 < cap) {i : Nat} (hi : i < n) {x : ItV} (hx : x.o.length = 16) (hb : OwnB w base x.v x.d) :
    OwnIts (w.setCells g (i * 17) (itC x)) base (.slice (some ⟨g, 0, none⟩) n cap) (zs.set i x) := by
  subst hn
  have hch : Chg [g] w (w.setCells g (i * 17) (itC x)) := Chg.setCells (by simp) _ _ _ (Chg.refl _ _)
  have hg : ownB (.slice (some ⟨g, 0, none⟩) zs.length cap) = some g := ownB_some hc
  have hbk : ∀ {u : Value} {d : List UInt8}, OwnB w base u d → OwnB (w.setCells g (i * 17) (itC x)) base u d := fun hu => Own.chg hu hch (fun y hy e => by
    rw [List.mem_singleton.1 hy] at e
    exact own_kinds hu h.row (by decide) g e hg)
  refine ⟨?_, fun z hz => ?_, fun z hz => ?_⟩
  · have := Own.setCells (itC x) _ w (i * 17) h.row
    rw [itsC_set zs h.len i x hx hi] at this
    rw [List.length_set]
    exact this
  · rcases List.mem_or_eq_of_mem_set hz with hz | rfl
    · exact h.len z hz
    · exact hx
  · rcases List.mem_or_eq_of_mem_set hz with hz | rfl
    · exact hbk (h.byt z hz)
    · exact hbk hb
theorem itsC_take (zs : List ItV) (hz : ∀ z ∈ zs, z.o.length = 16) (i : Nat) (hi : i ≤ zs.length) : (itsC zs).take (i * 17) = itsC (zs.take i) := by
  have e : itsC zs = itsC (zs.take i) ++ itsC (zs.drop i) := by
    unfold itsC
    rw [← List.flatMap_append, List.take_append_drop]
  have hl : (itsC (zs.take i)).length = i * 17 := by
    rw [show (itsC (zs.take i)).length = (zs.take i).length * 17 from chunk_length itC 17 _ (fun z hm => itC_length z (hz z (List.mem_of_mem_take hm))), List.length_take, Nat.min_eq_left hi]
  rw [e, List.take_append_of_le_length (by omega), List.take_of_length_le (by omega)]
theorem OwnIts.cut {w : World} {base n g cap : Nat} {zs : List ItV} (h : OwnIts w base (.slice (some ⟨g, 0, none⟩) n cap) zs) (hn : n = zs.length) {i : Nat} (hi : i ≤ n) : OwnIts w base (.slice (some ⟨g, 0, none⟩) i cap) (zs.take i) := by
  subst hn
  refine ⟨?_, fun z hz => h.len z (List.mem_of_mem_take hz), fun z hz => h.byt z (List.mem_of_mem_take hz)⟩
  have := Own.take h.row i hi
  rw [itsC_take zs h.len i hi] at this
  rw [List.length_take, Nat.min_eq_left hi]
  exact this
/-- The cells behind a beginning are written: the beginning stays. -/
theorem OwnIts.past {w : World} {base n g cap : Nat} {zs : List ItV} (h : OwnIts w base (.slice (some ⟨g, 0, none⟩) n cap) zs) (hn : n = zs.length) (hc : 0 < cap) (vs : List Value) {o : Nat} (ho : n * 17 ≤ o) : OwnIts (w.setCells g o vs) base (.slice (some ⟨g, 0, none⟩) n cap) zs := by
  subst hn
  have hch : Chg [g] w (w.setCells g o vs) := Chg.setCells (by simp) _ _ _ (Chg.refl _ _)
  have hg : ownB (.slice (some ⟨g, 0, none⟩) zs.length cap) = some g := ownB_some hc
  refine ⟨?_, h.len, fun z hz => Own.chg (h.byt z hz) hch (fun y hy e => by
    rw [List.mem_singleton.1 hy] at e
    exact own_kinds (h.byt z hz) h.row (by decide) g e hg)⟩
  have := Own.setCells vs _ w o h.row
  rw [setL_past vs _ o (by rw [h.row.len]; exact ho)] at this
  exact this
/-- A slice of items cleared. -/
theorem run_clear_items (w : World) (b o n c : Nat) (hn : 0 < n) (ht : w.there b o (n * 17)) :
    ∃ vs : List Value, ∀ ty, (Builtin.clear_ #[37] ty #[.slice (some ⟨b, o, none⟩) n c]).run Try.prog w = .ok (.tuple #[]) (w.setCells b o vs) := by
  obtain ⟨i, hi, hz0, hz1, hz2⟩ := info_parts infoI
  have hv : ∀ w, (zeroValue 49).run Try.prog w = .ok (.agg #[.int .u8 0, .int .u8 0, .int .u8 0, .int .u8 0, .int .u8 0, .int .u8 0, .int .u8 0, .int .u8 0, .int .u8 0, .int .u8 0, .int .u8 0, .int .u8 0, .int .u8 0, .int .u8 0, .int .u8 0, .int .u8 0, .slice none 0 0]) w := fun w => by
    simp [zeroValue, typeInfo, hi, hz0]
  obtain ⟨Z, hZ⟩ : ∃ Z : Array Value, Z = #[.int .u8 0, .int .u8 0, .int .u8 0, .int .u8 0, .int .u8 0, .int .u8 0, .int .u8 0, .int .u8 0, .int .u8 0, .int .u8 0, .int .u8 0, .int .u8 0, .int .u8 0, .int .u8 0, .int .u8 0, .int .u8 0, .slice none 0 0] := ⟨_, rfl⟩
  rw [← hZ] at hv
  have hZs : Z.size = 17 := by rw [hZ]; rfl
  have hZ1 : ∀ u ∈ Z.toList, u.oneCell' = true := by rw [hZ]; simp [Value.oneCell']
  have hlen : (Builtin.zeroCells Z n).toList.length = n * 17 := by simp [Builtin.zeroCells, hZs]
  have h1 : ∀ v ∈ (Builtin.zeroCells Z n).toList, v.oneCell' = true := fun v hv' => by
    simp only [Builtin.zeroCells, Array.toList_map, List.mem_map] at hv'
    obtain ⟨q, _, rfl⟩ := hv'
    have : q % Z.size < Z.size := Nat.mod_lt _ (by omega)
    rw [getElem!_pos Z _ this]
    exact hZ1 _ (by simp)
  have hst := run_storeCells_cells (P := Try.prog) b o (Builtin.zeroCells Z n).toList 0 w (by rw [hlen]; exact fun j hj => (ht j hj).1) (by rw [hlen]; exact fun j hj => (ht j hj).2) h1
  simp only [Nat.add_zero] at hst
  obtain ⟨m, rfl⟩ : ∃ m, n = m + 1 := ⟨n - 1, by omega⟩
  refine ⟨(Builtin.zeroCells Z (m + 1)).toList, fun ty => ?_⟩
  have hzc : (Value.agg Z).cells = Z := rfl
  simp [Builtin.clear_, run_underlying Try.underlying37, hv, hzc, hst]
end Go.Proofs.Ytilanncobbdlfaa

/-
  slices.IndexFunc over Merge's second closure: the first item that was met before.
-/
namespace Go.Proofs.Ytilanncobbdlfaa
open Go Go.RowKit
set_option linter.unusedVariables false

/-- Merge's second closure, as a value. -/
abbrev delV (bf bx : Nat) : Value := .func (.func 27) #[] #[.pointer (some ⟨bf, 0, none⟩), .pointer (some ⟨bx, 0, none⟩)]
theorem range_chg {w w' : World} {b o bm n : Nat} {ks cs : List Value} (h : w.rangeAt b o cs) (hm : MapK w bm ks n) (hc : Chg [bm] w w') : w'.rangeAt b o cs := fun j v hv => hc.cell (h j v hv) (by simpa using hm.ne (h j v hv))
theorem take_it {xs : List ItV} {j : Nat} {x : ItV} (h : xs[j]? = some x) : (xs.take (j + 1)).map ItV.it = (xs.take j).map ItV.it ++ [x.it] := by rw [take_at h, List.map_append]; rfl

def IxRes (xs : List ItV) (w : World) (bf bx bb bm n : Nat) (k : Int) (ks : List (Int × It)) (e : Ending) (w' : World) : Prop :=
  Chg [bm] w w' ∧ ((e = .returned (.int .i64 (-1)) ∧ keepI k ks (xs.map ItV.it) = xs.map ItV.it ∧ DelS w' bf bx bb bm k (keysI k ks (xs.map ItV.it)) (n + xs.length)) ∨
    ∃ i : Nat, i < xs.length ∧ e = .returned (.int .i64 (i : Int)) ∧ keepI k ks ((xs.take i).map ItV.it) = (xs.take i).map ItV.it ∧ keepI k ks ((xs.take (i + 1)).map ItV.it) = (xs.take i).map ItV.it ∧ DelS w' bf bx bb bm k (keysI k ks ((xs.take (i + 1)).map ItV.it)) (n + i + 1))
set_option maxRecDepth 100000 in
set_option maxHeartbeats 4000000 in
theorem ixf_calls (sv : Value) (xs : List ItV) (w : World) (bf bx bb bm n : Nat) (k : Int) (ks : List (Int × It)) (hk : 0 ≤ k ∧ k ≤ 255) (hv : Its w sv xs) (hl : xs.length ≤ 1000000) (hd : ∀ x ∈ xs, x.d.length ≤ 1000000000) (hS : DelS w bf bx bb bm k ks n) (hn : n ≤ 4000000000000000000) :
    Calls Try.prog 37 #[sv, delV bf bx] w (IxRes xs w bf bx bb bm n k ks) := by
  have HV := Lib.hid hv
  have HS := Lib.hid hS
  have HD := Lib.hid hd
  obtain ⟨a, cap, rfl, h1, h2⟩ := hv.open
  clear hv hS hd
  obtain ⟨N, hN⟩ : ∃ m, Hid (m = xs.length) := ⟨_, Lib.hid rfl⟩
  rw [← hN.out] at HV h1 hl ⊢
  go_enter Try.func37, Try.ntmps37
  go_wp2
  go_loopw [8] (fun i_ wr => ∃ j : Nat, j ≤ N ∧ i_ = .int .i64 j ∧ Hid (keepI k ks ((xs.take j).map ItV.it) = (xs.take j).map ItV.it) ∧ Hid (DelS wr bf bx bb bm k (keysI k ks ((xs.take j).map ItV.it)) (n + j)) ∧ Hid (Chg [bm] w wr)) (fun i_ _ => N - (intOf i_).toNat)
  case atStart => exact ⟨0, Nat.zero_le _, rfl, Lib.hid rfl, HS, Lib.hid (Chg.refl _ _)⟩
  case round =>
    obtain ⟨j, hj, rfl, HK, HSj, HC⟩ := hrel
    obtain ⟨wo, hwo⟩ : ∃ wo : World, wo = wr := ⟨_, rfl⟩
    subst hwo
    by_cases hlt : j < N
    · have hdl : decide ((j : Int) < (N : Int)) = true := by simp; omega
      obtain ⟨b, off, x, s, m, c, hx, ha, hrow, hxv, hm, hmc, hc, hxb, hxl, hxc, hx1⟩ := (HV.out.chgM HS.out.mp HC.out).item j (by rw [← hN.out]; exact hlt)
      subst ha
      have HXE := Lib.hid hx
      have HCL := Lib.hid (del_calls x wo bf bx bb bm (n + j) k _ hk hxl hxb (HD.out x (List.mem_of_getElem? hx)) HSj.out (by omega))
      have HROW := Lib.hid hrow
      have HXC := Lib.hid hxc
      obtain ⟨X, hX⟩ : ∃ X, Hid (X = itC x) := ⟨_, Lib.hid rfl⟩
      rw [← hX.out] at HROW HXC HCL
      clear hrow hx1 hxc hm hx hxv hxb hxl
      go_wp2_with (first
        | (refine wpList_load_mid rfl 49 _ rfl b (off + j * 17) rfl X _ HROW.out Try.underlying49 rfl (by rw [HXC.out]; kernel_rfl) ?_)
        | fail)
      refine HCL.out.mono ?_
      rintro e w1 ⟨B, hB, rfl, hS1, hc1⟩
      have HS1 := Lib.hid hS1
      have HC1 := Lib.hid (HC.out.trans hc1)
      have HB := Lib.hid hB
      clear hS1 hc1 hB HCL
      cases B with
      | true =>
        have HIN := HB.out.1 rfl
        go_wp2
        go_ret
        refine ⟨HC1.out, .inr ⟨j, by rw [← hN.out]; exact hlt, rfl, HK.out, ?_, ?_⟩⟩
        · rw [take_it HXE.out, keepI_snoc, if_pos HIN, List.append_nil]
          exact HK.out
        · rw [take_it HXE.out, keysI_snoc]
          exact HS1.out
      | false =>
        have HIN : (k, x.it) ∉ keysI k ks ((xs.take j).map ItV.it) := fun h => by cases HB.out.2 h
        have HK2 : Hid (keepI k ks ((xs.take (j + 1)).map ItV.it) = (xs.take (j + 1)).map ItV.it) := Lib.hid (by
          rw [take_it HXE.out, keepI_snoc, if_neg HIN, HK.out])
        have HS2 : Hid (DelS w1 bf bx bb bm k (keysI k ks ((xs.take (j + 1)).map ItV.it)) (n + (j + 1))) := Lib.hid (by
          rw [take_it HXE.out, keysI_snoc]
          exact HS1.out)
        clear HIN HB
        go_wp2
        go_roundw
        case rel => exact ⟨j + 1, hlt, by go_num, HK2, HS2, HC1⟩
        case measure => simp [intOf]; omega
    · obtain rfl : N = j := by omega
      have hdl : decide ((N : Int) < (N : Int)) = false := by simp
      go_wp2
      go_ret
      have e : xs.take N = xs := List.take_of_length_le (by rw [← hN.out]; exact Nat.le_refl _)
      have h1 := HK.out
      have h2 := HSj.out
      rw [e] at h1 h2
      exact ⟨HC.out, .inl ⟨rfl, h1, by rw [← hN.out]; exact h2⟩⟩
end Go.Proofs.Ytilanncobbdlfaa

/-
  slices.DeleteFunc over Merge's second closure: what was not met before, each once.
-/
namespace Go.Proofs.Ytilanncobbdlfaa
open Go Go.RowKit
set_option linter.unusedVariables false

theorem run_lowI (W : World) (g N cap i : Nat) (hi : i < N) (hN : N ≤ cap) :
    (Instr.sliceAt 37 (.slice (some ⟨g, 0, none⟩) N cap) (some (.int .i64 (i : Int))) none none).run Try.prog W = .ok (.slice (some ⟨g, i * 17, none⟩) (N - i) (cap - i)) W := by
  obtain ⟨j, hj, hz0, hz1, hz2⟩ := info_parts infoI
  have b1 : (0 : Int) ≤ (i : Int) := by omega
  have b2 : (i : Int) ≤ (N : Int) := by omega
  have b3 : i ≤ N := by omega
  have b4 : (N : Int) ≤ (cap : Int) := by omega
  have b5 : ¬ (cap - i = 0) := by omega
  have e : (⟨g, 0, none⟩ : Addr).add (i * 17) = ⟨g, i * 17, none⟩ := by rw [Addr.add_mid, Nat.zero_add]
  simp [Instr.sliceAt, Instr.slice, Instr.sliceBounds, Instr.sliceBound, run_underlying Try.underlying37, asIntOf, b1, b3, sizeOf, typeInfo, hj, hz1, e]
  intro h
  omega
theorem run_cutI (W : World) (g N cap i : Nat) (hi : i ≤ N) (hN : N ≤ cap) :
    (Instr.sliceAt 37 (.slice (some ⟨g, 0, none⟩) N cap) none (some (.int .i64 (i : Int))) none).run Try.prog W = .ok (.slice (some ⟨g, 0, none⟩) i cap) W := by
  obtain ⟨j, hj, hz0, hz1, hz2⟩ := info_parts infoI
  have b2 : (0 : Int) ≤ (i : Int) ∧ (i : Int) ≤ (cap : Int) := by omega
  have b3 : i ≤ cap := by omega
  have e : (⟨g, 0, none⟩ : Addr).add 0 = ⟨g, 0, none⟩ := by rw [Addr.add_mid]
  simp [Instr.sliceAt, Instr.slice, Instr.sliceBounds, Instr.sliceBound, run_underlying Try.underlying37, asIntOf, b2, b3, sizeOf, typeInfo, hj, hz1, e]
theorem drop_at {α : Type} {xs zs : List α} {j : Nat} (h : zs.drop j = xs.drop j) : zs[j]? = xs[j]? := by
  have := congrArg (fun l => l[0]?) h
  simpa using this
theorem drop_next {α : Type} {xs zs : List α} {j : Nat} (h : zs.drop j = xs.drop j) : zs.drop (j + 1) = xs.drop (j + 1) := by
  have := congrArg (List.drop 1) h
  rwa [List.drop_drop, List.drop_drop] at this
theorem drop_set_lt {α : Type} {zs : List α} {i j : Nat} (x : α) (h : i < j) : (zs.set i x).drop j = zs.drop j := by
  apply List.ext_getElem?
  intro r
  rw [List.getElem?_drop, List.getElem?_drop, List.getElem?_set_ne (by omega)]
theorem take_set_here {α : Type} {zs : List α} {i : Nat} (x : α) (h : i < zs.length) : (zs.set i x).take (i + 1) = zs.take i ++ [x] := by
  rw [take_at (List.getElem?_set_self h), List.take_set_of_le (Nat.le_refl i)]

def DfRes (sv : Value) (xs : List ItV) (w : World) (base bf bx bb bm n : Nat) (k : Int) (ks : List (Int × It)) (e : Ending) (w' : World) : Prop :=
  ∃ (a : Option Addr) (m c : Nat) (ys : List ItV) (L : List Nat), e = .returned (.slice a m c) ∧ m = ys.length ∧ OwnIts w' base (.slice a m c) ys ∧ ys.map ItV.it = keepI k ks (xs.map ItV.it) ∧
    DelS w' bf bx bb bm k (keysI k ks (xs.map ItV.it)) (n + xs.length) ∧ (∀ q, ownB (.slice a m c) = some q → ownB sv = some q) ∧ Chg L w w' ∧ (∀ x ∈ L, x = bm ∨ ownB sv = some x)
set_option maxRecDepth 100000 in
set_option maxHeartbeats 4000000 in
theorem dlf_calls (sv : Value) (xs : List ItV) (w : World) (base bf bx bb bm n : Nat) (k : Int) (ks : List (Int × It)) (hk : 0 ≤ k ∧ k ≤ 255) (hv : OwnIts w base sv xs) (hl : xs.length ≤ 1000000) (hd : ∀ x ∈ xs, x.d.length ≤ 1000000000) (hS : DelS w bf bx bb bm k ks n) (hn : n ≤ 4000000000000000000)
    (hne : ∀ q, ownB sv = some q → q ≠ bf ∧ q ≠ bx ∧ q ≠ bb) :
    Calls Try.prog 26 #[sv, delV bf bx] w (DfRes sv xs w base bf bx bb bm n k ks) := by
  have HV := Lib.hid hv
  have HS := Lib.hid hS
  have HD := Lib.hid hd
  have HNE := Lib.hid hne
  have HNM := Lib.hid (hv.row.neM hS.mp)
  obtain ⟨a, cap, rfl, h1, h2⟩ := hv.row.shape
  clear hv hS hd hne
  obtain ⟨N, hN⟩ : ∃ m, Hid (m = xs.length) := ⟨_, Lib.hid rfl⟩
  rw [← hN.out] at HV HNE HNM h1 hl ⊢
  unfold maxLen at h2
  have HIX := Lib.hid (ixf_calls _ xs w bf bx bb bm n k ks hk HV.out.its (by rw [← hN.out]; exact hl) HD.out HS.out hn)
  go_enter Try.func26, Try.ntmps26
  go_wp2_with fail
  refine HIX.out.mono ?_
  rintro e w1 ⟨hc, ⟨rfl, hk1, hs1⟩ | ⟨i0, hi0, rfl, hk1, hk2, hs1⟩⟩
  · have HC := Lib.hid hc
    have HK := Lib.hid hk1
    have HS1 := Lib.hid hs1
    clear hc hk1 hs1 HIX
    go_wp2
    go_ret
    exact ⟨a, N, cap, xs, [bm], rfl, hN.out, HV.out.chgM HS.out.mp HC.out, HK.out.symm, HS1.out, fun q hq => hq, HC.out, fun x hx => .inl (List.mem_singleton.1 hx)⟩
  · obtain ⟨g, cap', e0, _, hgl, hc0, _, _⟩ := Own.head HV.out.row (by omega)
    simp only [Value.slice.injEq] at e0
    obtain ⟨rfl, e1, rfl⟩ := e0
    clear e1
    have hgb : ownB (.slice (some ⟨g, 0, none⟩) N cap) = some g := ownB_some hc0
    have HGB := Lib.hid hgb
    have HGN := Lib.hid (HNE.out g hgb)
    have HGM : Hid (g ≠ bm) := Lib.hid (fun e => HNM.out (by rw [hgb, e]))
    have HC := Lib.hid (hc.mono (L' := [bm, g]) (fun q hq => by rw [List.mem_singleton.1 hq]; simp))
    have HV1 := Lib.hid (HV.out.chgM HS.out.mp hc)
    have HK1 := Lib.hid hk1
    have HK2 := Lib.hid hk2
    have HS1 := Lib.hid hs1
    have hi0N : i0 < N := by rw [hN.out]; exact hi0
    have hq : ((i0 : Int) == -1) = false := by simp
    clear hc hk1 hk2 hs1 HIX hgb hi0
    go_wp2
    go_loopw [6, 5] (fun j_ i_ wr => ∃ (j i : Nat) (zs : List ItV), j ≤ N ∧ i < j ∧ j_ = .int .i64 j ∧ i_ = .int .i64 i ∧ Hid (N = zs.length) ∧ Hid (OwnIts wr base (.slice (some ⟨g, 0, none⟩) N cap) zs) ∧ Hid ((zs.take i).map ItV.it = keepI k ks ((xs.take j).map ItV.it)) ∧ Hid (zs.drop j = xs.drop j) ∧ Hid (∀ z ∈ zs, z.d.length ≤ 1000000000) ∧ Hid (DelS wr bf bx bb bm k (keysI k ks ((xs.take j).map ItV.it)) (n + j)) ∧ Hid (Chg [bm, g] w wr)) (fun j_ _ _ => N - (intOf j_).toNat)
    case atStart => exact ⟨i0 + 1, i0, xs, hi0N, Nat.lt_succ_self _, by go_num, rfl, hN, HV1, Lib.hid HK2.out.symm, Lib.hid rfl, HD, HS1, HC⟩
    case round =>
      obtain ⟨j, i, zs, hj, hij, rfl, rfl, HZN, HZ, HT, HDR, HZD, HSj, HCw⟩ := hrel
      obtain ⟨wo, hwo⟩ : ∃ wo : World, wo = wr := ⟨_, rfl⟩
      subst hwo
      by_cases hlt : j < N
      · have hdl : decide ((j : Int) < (N : Int)) = true := by simp; omega
        obtain ⟨b, off, x, s, m, c, hx, ha, hrow, hxv, hm, hmc, hc, hxb, hxl, hxc, hx1⟩ := HZ.out.its.item j (by rw [← HZN.out]; exact hlt)
        cases ha
        rw [Nat.zero_add] at hrow
        have HXE : Hid (xs[j]? = some x) := Lib.hid ((drop_at HDR.out).symm.trans hx)
        have HXZ : Hid (x ∈ zs) := Lib.hid (List.mem_of_getElem? hx)
        have HXL := Lib.hid hxl
        have HROW := Lib.hid hrow
        have HXC := Lib.hid hxc
        have HX1 := Lib.hid hx1
        have HXB := Lib.hid hxb
        obtain ⟨X, hX⟩ : ∃ X, Hid (X = itC x) := ⟨_, Lib.hid rfl⟩
        have HBA := Lib.hid ((Below.refl wo.heap.size wo).alloc (Nat.le_refl _) (.cells X.toArray 49))
        have HSA := Lib.hid (HSj.out.below HBA.out)
        have HCL := Lib.hid (del_calls x _ bf bx bb bm (n + j) k _ hk hxl (hxb.below HBA.out) (HZD.out x HXZ.out) HSA.out (by omega))
        rw [← hX.out] at HROW HXC HX1 HCL
        clear hrow hx1 hxc hm hx hxv hxb hxl
        have HXR := Lib.hid (RowAt.new wo X.toArray 49 wo.heap.size rfl)
        obtain ⟨n6, hn6⟩ : ∃ n6, Hid (n6 = wo.heap.size) := ⟨_, Lib.hid rfl⟩
        rw [← hn6.out] at HXR
        have HXRG : Hid ((wo.alloc (.cells X.toArray 49)).rangeAt n6 0 X) := Lib.hid (by have := HXR.out.range; simpa using this)
        go_wp2_with (first
          | (refine wpList_load_mid rfl 49 _ rfl g (j * 17) rfl X _ HROW.out Try.underlying49 rfl (by rw [HXC.out]; kernel_rfl) ?_)
          | (refine wpList_store_item rfl _ _ rfl wo _ X rfl HXC.out HX1.out rfl rfl ?_; rw [← hn6.out])
          | (refine wpList_load_mid rfl 49 _ rfl n6 0 rfl X _ HXRG.out Try.underlying49 rfl (by rw [HXC.out]; kernel_rfl) ?_))
        refine HCL.out.mono ?_
        rintro e w2 ⟨B, hB, rfl, hS1', hc1'⟩
        have hbm := HSj.out.mp.lt
        have HZ2 := Lib.hid ((HZ.out.below HBA.out).chgM HSA.out.mp hc1')
        have HC2 := Lib.hid ((HCw.out.below HBA.out).trans (hc1'.mono (L' := [bm, g]) (fun q hq => by rw [List.mem_singleton.1 hq]; simp)))
        have HXR2 := Lib.hid (HXR.out.chg hc1' (by rw [hn6.out]; simp; omega))
        have HXRG2 : Hid (w2.rangeAt n6 0 X) := Lib.hid (by have := HXR2.out.range; simpa using this)
        have HS1' := Lib.hid hS1'
        have HB := Lib.hid hB
        clear hS1' hc1' hB HCL hbm HXRG HROW
        cases B with
        | true =>
          have HIN := HB.out.1 rfl
          have HT2 : Hid ((zs.take i).map ItV.it = keepI k ks ((xs.take (j + 1)).map ItV.it)) := Lib.hid (by
            rw [take_it HXE.out, keepI_snoc, if_pos HIN, List.append_nil]
            exact HT.out)
          have HS2 : Hid (DelS w2 bf bx bb bm k (keysI k ks ((xs.take (j + 1)).map ItV.it)) (n + (j + 1))) := Lib.hid (by
            rw [take_it HXE.out, keysI_snoc]
            exact HS1'.out)
          have HDR2 := Lib.hid (drop_next HDR.out)
          clear HIN HB
          go_wp2
          go_roundw
          case rel => exact ⟨j + 1, i, zs, hlt, by omega, by go_num, rfl, HZN, HZ2, HT2, HDR2, HZD, HS2, HC2⟩
          case measure => simp [intOf]; omega
        | false =>
          have HIN : (k, x.it) ∉ keysI k ks ((xs.take j).map ItV.it) := fun h => by cases HB.out.2 h
          have hiN : i < N := by omega
          have HTH : Hid (w2.there g (i * 17) X.toArray.size) := Lib.hid (by
            have h := HZ2.out.row
            rw [← HZN.out] at h
            have h2 : X.toArray.size = 17 := by simp [HXC.out]
            rw [h2]
            exact h.there (by omega) (by omega))
          have HZ3 : Hid (OwnIts (w2.setCells g (i * 17) X) base (.slice (some ⟨g, 0, none⟩) N cap) (zs.set i x)) := Lib.hid (by
            rw [hX.out]
            exact HZ2.out.setItem HZN.out hc0 hiN HXL.out (HZ2.out.byt x HXZ.out))
          have HT3 : Hid (((zs.set i x).take (i + 1)).map ItV.it = keepI k ks ((xs.take (j + 1)).map ItV.it)) := Lib.hid (by
            rw [take_it HXE.out, keepI_snoc, if_neg HIN, take_set_here x (by rw [← HZN.out]; exact hiN), List.map_append, HT.out]
            rfl)
          have HG3 : Hid (Chg [g] w2 (w2.setCells g (i * 17) X)) := Lib.hid (Chg.setCells (by simp) _ _ _ (Chg.refl _ _))
          have HS3 : Hid (DelS (w2.setCells g (i * 17) X) bf bx bb bm k (keysI k ks ((xs.take (j + 1)).map ItV.it)) (n + (j + 1))) := Lib.hid (by
            rw [take_it HXE.out, keysI_snoc]
            have h := HGN.out
            have h2 := HGM.out
            exact HS1'.out.chg HG3.out (by simp; exact fun e => h.1 e.symm) (by simp; exact fun e => h.2.1 e.symm) (by simp; exact fun e => h.2.2 e.symm) (by simp; exact fun e => h2 e.symm))
          have HC3 : Hid (Chg [bm, g] w (w2.setCells g (i * 17) X)) := Lib.hid (Chg.setCells (by simp) _ _ _ HC2.out)
          have HZN3 : Hid (N = (zs.set i x).length) := Lib.hid (by rw [List.length_set]; exact HZN.out)
          have HDR3 : Hid ((zs.set i x).drop (j + 1) = xs.drop (j + 1)) := Lib.hid (by rw [drop_set_lt x (by omega)]; exact drop_next HDR.out)
          have HZD3 : Hid (∀ z ∈ zs.set i x, z.d.length ≤ 1000000000) := Lib.hid (fun z hz => by
            rcases List.mem_or_eq_of_mem_set hz with hz | rfl
            · exact HZD.out z hz
            · exact HZD.out z HXZ.out)
          clear HIN HB
          go_wp2_with (first
            | (refine wpList_load_mid rfl 49 _ rfl n6 0 rfl X _ HXRG2.out Try.underlying49 rfl (by rw [HXC.out]; kernel_rfl) ?_)
            | (refine wpList_store_mid rfl 49 _ _ rfl g (i * 17) X.toArray rfl rfl HTH.out (by rw [sizeI]; simp [HXC.out]) (all_oneCell_toArray HX1.out) ?_))
          go_roundw
          case rel => exact ⟨j + 1, i + 1, zs.set i x, hlt, by omega, by go_num, by go_num, HZN3, HZ3, HT3, HDR3, HZD3, HS3, HC3⟩
          case measure => simp [intOf]; omega
      · obtain rfl : N = j := by omega
        have hdl : decide ((N : Int) < (N : Int)) = false := by simp
        have hlo : ∀ W : World, _ := fun W => run_lowI W g N cap i hij h1
        have hcu : ∀ W : World, _ := fun W => run_cutI W g N cap i (Nat.le_of_lt hij) h1
        have HRW : Hid (Own wo base 49 17 (.slice (some ⟨g, 0, none⟩) N cap) N (itsC zs)) := Lib.hid (by have h := HZ.out.row; rw [← HZN.out] at h; exact h)
        obtain ⟨vs, hcl⟩ := run_clear_items wo g (i * 17) (N - i) (cap - i) (by omega) (HRW.out.there (by omega) (by omega))
        have HCT := Lib.hid (((HZ.out.cut HZN.out (Nat.le_of_lt hij)).past (by rw [List.length_take, ← HZN.out]; omega) hc0 vs (o := i * 17) (by omega)))
        have HG3 : Hid (Chg [g] wo (wo.setCells g (i * 17) vs)) := Lib.hid (Chg.setCells (by simp) _ _ _ (Chg.refl _ _))
        have HS3 : Hid (DelS (wo.setCells g (i * 17) vs) bf bx bb bm k (keysI k ks (xs.map ItV.it)) (n + xs.length)) := Lib.hid (by
          have h := HGN.out
          have h2 := HGM.out
          have h3 := HSj.out
          rw [List.take_of_length_le (by rw [← hN.out]; exact Nat.le_refl _)] at h3
          rw [← hN.out]
          exact h3.chg HG3.out (by simp; exact fun e => h.1 e.symm) (by simp; exact fun e => h.2.1 e.symm) (by simp; exact fun e => h.2.2 e.symm) (by simp; exact fun e => h2 e.symm))
        have HC3 : Hid (Chg [bm, g] w (wo.setCells g (i * 17) vs)) := Lib.hid (Chg.setCells (by simp) _ _ _ HCw.out)
        have HT3 : Hid ((zs.take i).map ItV.it = keepI k ks (xs.map ItV.it)) := Lib.hid (by
          have h3 := HT.out
          rw [List.take_of_length_le (l := xs) (by rw [← hN.out]; exact Nat.le_refl _)] at h3
          exact h3)
        have HLN : Hid (i = (zs.take i).length) := Lib.hid (by rw [List.length_take, ← HZN.out]; omega)
        go_wp2
        go_ret
        exact ⟨some ⟨g, 0, none⟩, i, cap, zs.take i, [bm, g], rfl, HLN.out, HCT.out, HT3.out, HS3.out, fun q hq => by
          rw [ownB_some hc0] at hq
          cases hq
          exact HGB.out, HC3.out, fun x hx => by
          simp at hx
          rcases hx with rfl | rfl
          · exact .inl rfl
          · exact .inr HGB.out⟩
end Go.Proofs.Ytilanncobbdlfaa

/-
  What Merge stands on while it puts lists behind others.
-/
namespace Go.Proofs.Ytilanncobbdlfaa
open Go Go.RowKit
set_option linter.unusedVariables false

theorem Chg.of_grown {w w' : World} {row : Option Nat} {L : List Nat} (h : w.grownBy w' row) (hL : ∀ q, row = some q → q ∈ L) : Chg L w w' :=
  ⟨h.os, h.tape, h.output, h.size, fun k hk hn => h.block k hk (fun e => hn (hL k e.symm))⟩
theorem Own.neC {w : World} {base e size n b : Nat} {v : Value} {xs : List Value} {cs : Array Value} {t : TypeId} {fr : Nat × Nat} (h : Own w base e size v n xs) (hb : w.heap[b]? = some (.cells cs t fr)) (ht : t ≠ e) : ownB v ≠ some b := by
  intro e0
  rcases h.2 with ⟨a, rfl, _⟩ | ⟨g, cap, cur, rfl, _, hg, _, h0, _⟩
  · cases a <;> simp [ownB] at e0
  · rw [ownB_some h0] at e0
    cases e0
    rw [hb] at hg
    cases hg
    exact ht rfl
theorem Own.grown {w w' : World} {base e e' size size' n n' : Nat} {v v' : Value} {xs xs' : List Value} {base' : Nat} (h : Own w base e size v n xs) (h' : Own w base' e' size' v' n' xs') (he : e' ≠ e) (hg : w.grownBy w' (ownB v')) : Own w' base e size v n xs :=
  Own.kept h hg (fun k hk e0 => own_kinds h' h he k e0 hk)

/-- What fresh stands on: its own box, the map's box, the map. -/
structure FrS (w : World) (bf bb bm : Nat) (ks : List (Int × It)) (n : Nat) : Prop where
  hf : w.heap[bf]? = some (.cells #[.func (.func 25) #[] #[.pointer (some ⟨bb, 0, none⟩)]] 53 (0, 0))
  hb : w.heap[bb]? = some (.cells #[.map (some bm)] 50 (0, 0))
  mp : MapK w bm (ks.map kv) n
  ow : ∀ q ∈ ks, q.2.o.length = 16
theorem FrS.cf {w : World} {bf bb bm n : Nat} {ks : List (Int × It)} (h : FrS w bf bb bm ks n) : w.cell? ⟨bf, 0, none⟩ = some (.func (.func 25) #[] #[.pointer (some ⟨bb, 0, none⟩)]) := (cell_of_row w bf 0 _ _ (0, 0) h.hf).trans rfl
theorem FrS.cm {w : World} {bf bb bm n : Nat} {ks : List (Int × It)} (h : FrS w bf bb bm ks n) : w.cell? ⟨bb, 0, none⟩ = some (.map (some bm)) := (cell_of_row w bb 0 _ _ (0, 0) h.hb).trans rfl
theorem FrS.lt {w : World} {bf bb bm n : Nat} {ks : List (Int × It)} (h : FrS w bf bb bm ks n) : bf < w.heap.size ∧ bb < w.heap.size ∧ bm < w.heap.size := ⟨(Array.getElem?_eq_some_iff.1 h.hf).1, (Array.getElem?_eq_some_iff.1 h.hb).1, h.mp.lt⟩
theorem FrS.step {w w' : World} {bf bb bm n n' : Nat} {ks ks' : List (Int × It)} {L : List Nat} (h : FrS w bf bb bm ks n) (hc : Chg L w w') (h1 : bf ∉ L) (h2 : bb ∉ L) (hm : MapK w' bm (ks'.map kv) n') (ho : ∀ q ∈ ks', q.2.o.length = 16) : FrS w' bf bb bm ks' n' :=
  ⟨(hc.block bf h.lt.1 h1).trans h.hf, (hc.block bb h.lt.2.1 h2).trans h.hb, hm, ho⟩
theorem FrS.chg {w w' : World} {bf bb bm n : Nat} {ks : List (Int × It)} {L : List Nat} (h : FrS w bf bb bm ks n) (hc : Chg L w w') (h1 : bf ∉ L) (h2 : bb ∉ L) (h3 : bm ∉ L) : FrS w' bf bb bm ks n :=
  h.step hc h1 h2 (h.mp.chg hc h3) h.ow
theorem FrS.below {w w' : World} {bf bb bm n : Nat} {ks : List (Int × It)} (h : FrS w bf bb bm ks n) (hb : Below w.heap.size w w') : FrS w' bf bb bm ks n := h.chg (L := []) (Below.chg hb []) (by simp) (by simp) (by simp)
theorem FrS.nem {w : World} {bf bb bm n : Nat} {ks : List (Int × It)} (h : FrS w bf bb bm ks n) : bf ≠ bm ∧ bb ≠ bm := ⟨h.mp.ne h.cf, h.mp.ne h.cm⟩
theorem FrS.del {w : World} {bf bb bm bx n : Nat} {k : Int} {ks : List (Int × It)} (h : FrS w bf bb bm ks n) (hk : w.cell? ⟨bx, 0, none⟩ = some (.int .u8 k)) : DelS w bf bx bb bm k ks n := ⟨h.cf, hk, h.cm, h.mp, h.ow⟩
theorem FrS.add {w w' : World} {bf bb bm n : Nat} {k : Int} {x : It} {ks : List (Int × It)} (h : FrS w bf bb bm ks n) (hc : Chg [bm] w w') (hm : MapK w' bm (keyV k x.o x.d :: ks.map kv) (n + 1)) (hx : x.o.length = 16) : FrS w' bf bb bm ((k, x) :: ks) (n + 1) :=
  h.step hc (by simpa using h.nem.1) (by simpa using h.nem.2) hm (fun q hq => by
    rcases List.mem_cons.1 hq with rfl | hq
    · exact hx
    · exact h.ow q hq)

/-- Lists whose items the call has made, each in a row of its own. -/
structure OwnSet (w : World) (base : Nat) (zs : List LiV) : Prop where
  kind : ∀ x ∈ zs, 0 ≤ x.k ∧ x.k ≤ 255
  its : ∀ x ∈ zs, OwnIts w base x.v x.i
  part : zs.Pairwise (fun x y => ∀ k, ownB x.v = some k → ownB y.v ≠ some k)
theorem OwnLis.set {w : World} {base : Nat} {v : Value} {xs : List LiV} (h : OwnLis w base v xs) : OwnSet w base xs :=
  ⟨h.kind, fun x hx => h.own_its hx, List.pairwise_iff_getElem.2 (fun i j hi hj hij => h.part i j _ _ (List.getElem?_eq_getElem hi) (List.getElem?_eq_getElem hj) (by omega))⟩
theorem OwnSet.lis {w : World} {base : Nat} {v : Value} {xs : List LiV} (h : OwnSet w base xs) (hr : Own w base 39 2 v xs.length (lisC xs)) : Lis w v xs :=
  ⟨hr.rd, h.kind, fun x hx => (h.its x hx).its⟩
theorem OwnSet.mono {w : World} {base base' : Nat} {zs : List LiV} (h : OwnSet w base zs) (hb : base' ≤ base) : OwnSet w base' zs := ⟨h.kind, fun x hx => (h.its x hx).mono hb, h.part⟩
theorem OwnSet.below {w w' : World} {base : Nat} {zs : List LiV} (h : OwnSet w base zs) (hb : Below w.heap.size w w') : OwnSet w' base zs := ⟨h.kind, fun x hx => (h.its x hx).below hb, h.part⟩
theorem OwnSet.chgM {w w' : World} {base bm m : Nat} {zs : List LiV} {ks : List Value} (h : OwnSet w base zs) (hm : MapK w bm ks m) (hc : Chg [bm] w w') : OwnSet w' base zs := ⟨h.kind, fun x hx => (h.its x hx).chgM hm hc, h.part⟩
theorem OwnSet.join {w : World} {base base' : Nat} {ys ms : List LiV} (h : OwnSet w base ys) (h2 : OwnSet w base' ms) (hb : base ≤ base') (hlt : ∀ y ∈ ys, ∀ k, ownB y.v = some k → k < base') : OwnSet w base (ys ++ ms) := by
  refine ⟨fun x hx => ?_, fun x hx => ?_, List.pairwise_append.2 ⟨h.part, h2.part, fun x hx y hy k hk hk2 => ?_⟩⟩
  · rcases List.mem_append.1 hx with hx | hx
    · exact h.kind x hx
    · exact h2.kind x hx
  · rcases List.mem_append.1 hx with hx | hx
    · exact h.its x hx
    · exact (h2.its x hx).mono hb
  · have h3 := hlt x hx k hk
    have h4 := (Own.lt (h2.its y hy).row k hk2).1
    omega
theorem OwnSet.sub {w : World} {base : Nat} {zs ys : List LiV} (h : OwnSet w base zs) (hs : ys.Sublist zs) : OwnSet w base ys :=
  ⟨fun x hx => h.kind x (hs.subset hx), fun x hx => h.its x (hs.subset hx), h.part.sublist hs⟩
theorem OwnSet.grown {w w' : World} {base base' n : Nat} {v : Value} {cs : List Value} {zs : List LiV} (h : OwnSet w base zs) (hr : Own w base' 39 2 v n cs) (hg : w.grownBy w' (ownB v)) : OwnSet w' base zs :=
  ⟨h.kind, fun x hx => ⟨(h.its x hx).row.grown hr (by decide) hg, (h.its x hx).len, fun y hy => Own.grown ((h.its x hx).byt y hy) hr (by decide) hg⟩, h.part⟩
/-- One of them is turned, in its own row alone. -/
theorem OwnSet.upd {w w' : World} {base bm n : Nat} {ks : List Value} {L : List Nat} {A B : List LiV} {x x' : LiV} (h : OwnSet w base (A ++ x :: B)) (hc : Chg L w w') (hL : ∀ q ∈ L, q = bm ∨ ownB x.v = some q) (hm : MapK w bm ks n)
    (hk : x'.k = x.k) (hi : OwnIts w' base x'.v x'.i) (ho : ∀ q, ownB x'.v = some q → ownB x.v = some q) : OwnSet w' base (A ++ x' :: B) := by
  obtain ⟨p1, p2, p3⟩ := List.pairwise_append.1 h.part
  obtain ⟨p4, p5⟩ := List.pairwise_cons.1 p2
  have hxr := (h.its x (by simp)).row
  have keep : ∀ z : LiV, z ∈ A ++ x :: B → (∀ k, ownB z.v = some k → ownB x.v ≠ some k) → OwnIts w' base z.v z.i := fun z hz hne => by
    have hzi := h.its z hz
    refine ⟨hzi.row.chg hc (fun q hq e => ?_), hzi.len, fun y hy => Own.chg (hzi.byt y hy) hc (fun q hq e => ?_)⟩
    · rcases hL q hq with rfl | e2
      · exact hzi.row.neM hm e
      · exact hne q e e2
    · rcases hL q hq with rfl | e2
      · exact Own.neM (hzi.byt y hy) hm e
      · exact own_kinds (hzi.byt y hy) hxr (by decide) q e e2
  have hA : ∀ z ∈ A, OwnIts w' base z.v z.i := fun z hz => keep z (by simp [hz]) (p3 z hz x (by simp))
  have hB : ∀ z ∈ B, OwnIts w' base z.v z.i := fun z hz => keep z (by simp [hz]) (fun k hk hk2 => p4 z hz k hk2 hk)
  refine ⟨fun z hz => ?_, fun z hz => ?_, List.pairwise_append.2 ⟨p1, List.pairwise_cons.2 ⟨fun z hz k hk => p4 z hz k (ho k hk), p5⟩, fun a ha b hb => ?_⟩⟩
  · rcases List.mem_append.1 hz with hz | hz
    · exact h.kind z (by simp [hz])
    · rcases List.mem_cons.1 hz with rfl | hz
      · rw [hk]; exact h.kind x (by simp)
      · exact h.kind z (by simp [hz])
  · rcases List.mem_append.1 hz with hz | hz
    · exact hA z hz
    · rcases List.mem_cons.1 hz with rfl | hz
      · exact hi
      · exact hB z hz
  · rcases List.mem_cons.1 hb with rfl | hb
    · exact fun k hk hk2 => p3 a ha x (by simp) k hk (ho k hk2)
    · exact p3 a ha b (by simp [hb])
theorem drop_cons {α : Type} {l : List α} {j : Nat} {x : α} (h : l[j]? = some x) : l.drop j = x :: l.drop (j + 1) := by
  obtain ⟨hj, rfl⟩ := List.getElem?_eq_some_iff.1 h
  exact List.drop_eq_getElem_cons hj

/-- What bytes are, may be written; and its owners are whole. -/
theorem resL_good (l : List UInt8) : wrB (resL l) = true ∧ OwnO (resL l) := by
  unfold resL
  split
  · exact ⟨rfl, fun x hx => by simp at hx⟩
  · cases h : rdLs l with
    | none => exact ⟨rfl, fun x hx => by simp at hx⟩
    | some L => exact (wr_rd h).2
theorem wrB_data {L : List Li} (h : wrB L = true) : ∀ x ∈ L, ∀ y ∈ x.i, y.d.length ≤ 8192 := fun x hx y hy => by
  unfold wrB at h
  have hx := List.all_eq_true.1 h x hx
  have h1 := (ri_all hx).1 y hy
  have h2 := (ri_kind hx).2
  omega
/-- What Merge answers. -/
def mrgQ (a b : List UInt8) : List Li := mrgA (resL a) (resL b) (resL b).length
def mrgR (a b : List UInt8) : List UInt8 := if resE a = 0 ∧ resE b = 0 then wrR (mrgQ a b) else []
def mrgE (a b : List UInt8) : Int := if resE a = 0 then (if resE b = 0 then wrE (mrgQ a b) else resE b) else resE a
def MrgRes (a b : List UInt8) (w : World) (e : Ending) (w' : World) : Prop := ∃ x n c, e = .returned (.tuple #[.slice x n c, .int .i64 (mrgE a b)]) ∧ OwnB w' w.heap.size (.slice x n c) (mrgR a b) ∧ Below w.heap.size w w'
end Go.Proofs.Ytilanncobbdlfaa

/-
  siglist.Merge, and the document's stands and Merge.
-/
/-
  The contract of siglist.Merge.
-/
namespace Go.Proofs.Ytilanncobbdlfaa
open Go Go.RowKit
set_option linter.unusedVariables false

theorem mrg_bad1 {A B : List UInt8} {w w' : World} {E : Int} (hE : E = resE A) (h : E ≠ 0) (hb : Below w.heap.size w w') : MrgRes A B w (.returned (.tuple #[.slice none 0 0, .int .i64 E])) w' := by
  subst hE
  have h1 : mrgE A B = resE A := by unfold mrgE; rw [if_neg h]
  have h2 : mrgR A B = [] := by unfold mrgR; rw [if_neg (fun e => h e.1)]
  refine ⟨none, 0, 0, by rw [h1], ?_, hb⟩
  rw [h2]
  exact OwnB.empty _ _ _
theorem mrg_bad2 {A B : List UInt8} {w w' : World} {E : Int} (h0 : 0 = resE A) (hE : E = resE B) (h : E ≠ 0) (hb : Below w.heap.size w w') : MrgRes A B w (.returned (.tuple #[.slice none 0 0, .int .i64 E])) w' := by
  subst hE
  have h1 : mrgE A B = resE B := by unfold mrgE; rw [if_pos h0.symm, if_neg h]
  have h2 : mrgR A B = [] := by unfold mrgR; rw [if_neg (fun e => h e.2)]
  refine ⟨none, 0, 0, by rw [h1], ?_, hb⟩
  rw [h2]
  exact OwnB.empty _ _ _
theorem run_store_new (W : World) (Z : Value) (t : TypeId) (b : Nat) (hb : b = W.heap.size) (F : Value) (hF : F.oneCell' = true) : (store ⟨b, 0, none⟩ F).run Try.prog (W.alloc (.cells #[Z] t)) = .ok () (W.alloc (.cells #[F] t)) := by
  subst hb
  rw [run_store _ _ _ _ _ hF]
  simp
  rw [World.setCell_alloc_at (hn := rfl)]
  rfl
/-- The j-th of lists whose row the call owns. -/
theorem own_row_at {w : World} {base n cap : Nat} {a : Option Addr} {xs : List LiV} (h : Own w base 39 2 (.slice a n cap) xs.length (lisC xs)) {j : Nat} {x : LiV} (hx : xs[j]? = some x) :
    n = xs.length ∧ ∃ b off, a = some ⟨b, off, none⟩ ∧ w.rangeAt b (off + j * 2) [.int .u8 x.k, x.v] := by
  obtain ⟨a', c', e, h1, h2, h3, hc⟩ := h.rd
  simp only [Value.slice.injEq] at e
  obtain ⟨rfl, rfl, rfl⟩ := e
  obtain ⟨h4, h5⟩ := lisC_at hx
  obtain ⟨b, off, e1, c1⟩ := hc _ _ h4
  obtain ⟨b', off', e2, c2⟩ := hc _ _ h5
  rw [e1] at e2
  cases e2
  refine ⟨rfl, b, off, e1, range_two c1 ?_⟩
  rw [Nat.add_assoc]
  exact c2
theorem OwnSet.far {w w' : World} {base b : Nat} {zs : List LiV} {cs : Array Value} {fr : Nat × Nat} (h : OwnSet w base zs) (hb : w.heap[b]? = some (.cells cs 39 fr)) (hc : Chg [b] w w') : OwnSet w' base zs :=
  ⟨h.kind, fun x hx => ⟨(h.its x hx).row.chg hc (fun q hq => by rw [List.mem_singleton.1 hq]; exact (h.its x hx).row.neC hb (by decide)), (h.its x hx).len, fun y hy => Own.chg ((h.its x hx).byt y hy) hc (fun q hq => by rw [List.mem_singleton.1 hq]; exact Own.neC ((h.its x hx).byt y hy) hb (by decide))⟩, h.part⟩
theorem data_of {xs : List LiV} {L : List Li} (h : xs.map LiV.li = L) (hw : wrB L = true) : ∀ x ∈ xs, ∀ y ∈ x.i, y.d.length ≤ 8192 := fun x hx y hy => by
  subst h
  exact wrB_data hw x.li (List.mem_map.2 ⟨x, hx, rfl⟩) y.it (List.mem_map.2 ⟨y, hy, rfl⟩)
theorem addL_nil {l : List Li} {ks : List (Int × It)} {x : Li} (h : keepI x.k ks x.i = []) : addL l ks x = l := by unfold addL; rw [if_pos h]
theorem addL_some {l : List Li} {ks : List (Int × It)} {x : Li} (h : keepI x.k ks x.i ≠ []) : addL l ks x = l ++ [⟨x.k, keepI x.k ks x.i⟩] := by unfold addL; rw [if_neg h]
theorem addL_len (l : List Li) (ks : List (Int × It)) (x : Li) : (addL l ks x).length ≤ l.length + 1 := by
  unfold addL
  split
  · omega
  · simp
theorem mrgA_len (l m : List Li) : ∀ j, j ≤ m.length → (mrgA l m j).length ≤ l.length + j
  | 0, _ => by rw [mrgA_zero]; exact Nat.le_refl _
  | j + 1, hj => by
    obtain ⟨x, hx⟩ : ∃ x, m[j]? = some x := ⟨m[j], by simp⟩
    rw [mrgA_step hx]
    have := mrgA_len l m j (by omega)
    have := addL_len (mrgA l m j) (mrgK l m j) x
    omega
theorem keepI_len (k : Int) : ∀ (l : List It) (ks : List (Int × It)), (keepI k ks l).length ≤ l.length
  | [], ks => Nat.le_refl _
  | x :: l, ks => by
    simp only [keepI]
    have := keepI_len k l ((k, x) :: ks)
    split
    · rw [List.length_cons]; omega
    · rw [List.length_cons, List.length_cons]; omega
/-- Bounds of what is merged. -/
theorem mrgA_bound (n : Nat) (l m : List Li) (hl : ∀ x ∈ l, x.i.length ≤ n) (hm : ∀ x ∈ m, x.i.length ≤ n) : ∀ j, j ≤ m.length → ∀ x ∈ mrgA l m j, x.i.length ≤ n
  | 0, _, x, hx => by rw [mrgA_zero] at hx; exact hl x hx
  | j + 1, hj, x, hx => by
    obtain ⟨z, hz⟩ : ∃ z, m[j]? = some z := ⟨m[j], by simp⟩
    rw [mrgA_step hz] at hx
    unfold addL at hx
    split at hx
    · exact mrgA_bound n l m hl hm j (by omega) x hx
    · rcases List.mem_append.1 hx with hx | hx
      · exact mrgA_bound n l m hl hm j (by omega) x hx
      · rw [List.mem_singleton.1 hx]
        have := keepI_len z.k z.i (mrgK l m j)
        have := hm z (List.mem_of_getElem? hz)
        exact Nat.le_trans (keepI_len _ _ _) this
set_option maxRecDepth 100000 in
set_option maxHeartbeats 8000000 in
theorem merge_calls (va vb : Value) (A B : List UInt8) (w : World) (ha : Byt w va A) (hb : Byt w vb B) (hal : A.length ≤ 400000) (hbl : B.length ≤ 400000) :
    Calls Try.prog 11 #[va, vb] w (MrgRes A B w) := by
  have HA := Lib.hid ha
  have HB := Lib.hid hb
  clear ha hb
  obtain ⟨LA, hLA⟩ : ∃ X, Hid (X = resL A) := ⟨_, Lib.hid rfl⟩
  obtain ⟨EA, hEA⟩ : ∃ X, Hid (X = resE A) := ⟨_, Lib.hid rfl⟩
  obtain ⟨LB, hLB⟩ : ∃ X, Hid (X = resL B) := ⟨_, Lib.hid rfl⟩
  obtain ⟨EB, hEB⟩ : ∃ X, Hid (X = resE B) := ⟨_, Lib.hid rfl⟩
  have hmm := @run_makeMap Try.prog
  go_enter Try.func11, Try.ntmps11
  go_wp2_with fail
  refine (rd_form (sgReadAll_calls va A _ HA.out (by omega)) LA hLA.out EA hEA.out 400000 hal).mono ?_
  rintro e w1 ⟨a1, m1, c1, xs, rfl, ho, hm, hN, hm1, hb⟩
  have HB1 := Lib.hid hb
  have HO1 := Lib.hid ho
  have HM1 := Lib.hid hm
  have HN1 := Lib.hid hN
  have HL1 : Hid (∀ q, ownB (.slice a1 m1 c1) = some q → q < w1.heap.size) := Lib.hid (fun q hq => (Own.lt ho.row q hq).2)
  have HL2 : Hid (∀ y ∈ xs, ∀ q, ownB y.v = some q → q < w1.heap.size) := Lib.hid (fun y hy q hq => (Own.lt (ho.its y hy) q hq).2)
  clear hb ho hm hN
  by_cases hE : EA = 0
  case neg =>
    have hne : (EA != 0) = true := by simp [hE]
    go_wp2
    go_ret2
    exact mrg_bad1 hEA.out hE HB1.out
  case pos =>
    subst hE
    go_wp2_with fail
    refine (rd_form (sgReadAll_calls vb B _ (HB.out.below HB1.out) (by omega)) LB hLB.out EB hEB.out 400000 hbl).mono ?_
    rintro e w2 ⟨a2, m2, c2, ms, rfl, ho, hm, hN, hm2, hb⟩
    have HB2 := Lib.hid (HB1.out.trans (hb.mono HB1.out.size))
    have HO1 := Lib.hid (HO1.out.below hb)
    have HO2 := Lib.hid ho
    have HM2 := Lib.hid hm
    have HN2 := Lib.hid hN
    clear hb ho hm hN
    by_cases hE : EB = 0
    case neg =>
      have hne : (EB != 0) = true := by simp [hE]
      go_wp2
      go_ret2
      exact mrg_bad2 hEA.out hEB.out hE HB2.out
    case pos =>
      subst hE
      have hst := run_store_new ((w2.alloc (.map #[] 0)).alloc (.cells #[.map (some w2.heap.size)] 50)) .nilFunc 53 (w2.heap.size + 1 + 1) (by simp) (.func (.func 25) #[] #[.pointer (some ⟨w2.heap.size + 1, 0, none⟩)]) rfl
      go_wp2
      clear hst hmm
      have hm1n : m1 = xs.length := by
        obtain ⟨_, _, e, _⟩ := Own.shape HO1.out.row
        simp only [Value.slice.injEq] at e
        exact e.2.1
      have hm2n : m2 = ms.length := by
        obtain ⟨_, _, e, _⟩ := Own.shape HO2.out.row
        simp only [Value.slice.injEq] at e
        exact e.2.1
      have HM1N := Lib.hid hm1n
      have HM2N := Lib.hid hm2n
      clear hm1n hm2n
      have HDA := Lib.hid (data_of HM1.out (by rw [hLA.out]; exact (resL_good A).1))
      have HDB := Lib.hid (data_of HM2.out (by rw [hLB.out]; exact (resL_good B).1))
      obtain ⟨w3, hw3⟩ : ∃ W, Hid (W = ((w2.alloc (.map #[] 0)).alloc (.cells #[.map (some w2.heap.size)] 50)).alloc (.cells #[.func (.func 25) #[] #[.pointer (some ⟨w2.heap.size + 1, 0, none⟩)]] 53)) := ⟨_, Lib.hid rfl⟩
      rw [← hw3.out]
      have HB23 : Hid (Below w2.heap.size w2 w3) := Lib.hid (by
        rw [hw3.out]
        exact (((Below.refl _ _).alloc (Nat.le_refl _) _).alloc (by simp) _).alloc (by simp; omega) _)
      have HF3 : Hid (FrS w3 (w2.heap.size + 1 + 1) (w2.heap.size + 1) w2.heap.size [] 0) := Lib.hid (by
        rw [hw3.out]
        refine ⟨?_, ?_, ?_, fun q hq => by simp at hq⟩
        · have := heap_alloc_new ((w2.alloc (.map #[] 0)).alloc (.cells #[.map (some w2.heap.size)] 50)) (.cells #[.func (.func 25) #[] #[.pointer (some ⟨w2.heap.size + 1, 0, none⟩)]] 53)
          simpa using this
        · rw [Below.heap_alloc _ _ _ (by simp)]
          have := heap_alloc_new (w2.alloc (.map #[] 0)) (.cells #[.map (some w2.heap.size)] 50)
          simpa using this
        · exact ((MapK.made w2).of_block (Below.heap_alloc _ _ _ (by simp))).of_block (Below.heap_alloc _ _ _ (by simp; omega)))
      have HO13 := Lib.hid (HO1.out.below HB23.out)
      have HO23 := Lib.hid (HO2.out.below HB23.out)
      have HB3 := Lib.hid (HB2.out.trans (HB23.out.mono HB2.out.size))
      obtain ⟨bm, hbm⟩ : ∃ b, Hid (b = w2.heap.size) := ⟨_, Lib.hid rfl⟩
      rw [← hbm.out] at HF3 ⊢
      obtain ⟨bb, hbb⟩ : ∃ b, Hid (b = bm + 1) := ⟨_, Lib.hid rfl⟩
      rw [← hbb.out] at HF3 ⊢
      obtain ⟨bf, hbf⟩ : ∃ b, Hid (b = bb + 1) := ⟨_, Lib.hid rfl⟩
      rw [← hbf.out] at HF3 ⊢
      have HBM : Hid (w.heap.size ≤ bm) := Lib.hid (by rw [hbm.out]; exact HB2.out.size)
      clear hw3
      go_loopw [37] (fun i_ wr => ∃ (j n : Nat), j ≤ m1 ∧ i_ = .int .i64 j ∧ Hid (n ≤ j * 400000) ∧ Hid (FrS wr bf bb bm (keysL (LA.take j)) n) ∧ Hid (Chg [bm] w3 wr)) (fun i_ _ => m1 - (intOf i_).toNat)
      case atStart => exact ⟨0, 0, Nat.zero_le _, rfl, Lib.hid (Nat.zero_le _), HF3, Lib.hid (Chg.refl _ _)⟩
      case round =>
        obtain ⟨j, n, hj, rfl, HNJ, HFr, HCr⟩ := hrel
        obtain ⟨wo, hwo⟩ : ∃ wo : World, wo = wr := ⟨_, rfl⟩
        subst hwo
        by_cases hlt : j < m1
        · have hdl : decide ((j : Int) < (m1 : Int)) = true := by simp; omega
          obtain ⟨b, off, x, ia, ni, ic, hx, ha, hrow, hxv, hm, hmc, hc, hits⟩ := (HO13.out.lis.chgM HF3.out.mp HCr.out).item j (by rw [← HM1N.out]; exact hlt)
          subst ha
          have HX := Lib.hid hx
          have HXI : Hid (ni ≤ 400000) := Lib.hid (by rw [hm]; exact HN1.out.2 x (List.mem_of_getElem? hx))
          have hni : ni ≤ 400000 := HXI.out
          have HXK : Hid (0 ≤ x.k ∧ x.k ≤ 255) := Lib.hid (HO1.out.kind x (List.mem_of_getElem? hx))
          have HXD := Lib.hid (HDA.out x (List.mem_of_getElem? hx))
          have HRNG := Lib.hid hrow
          have HITS := Lib.hid hits
          have HNI := Lib.hid hm
          obtain ⟨k, hk⟩ : ∃ k, Hid (k = x.k) := ⟨_, Lib.hid rfl⟩
          rw [← hk.out] at HRNG HXK
          clear hrow hx hxv hm hits
          obtain ⟨n5, hn5⟩ : ∃ m, Hid (m = wo.heap.size) := ⟨_, Lib.hid rfl⟩
          have HR1 := Lib.hid (RowAt.new wo #[.int .u8 k, .slice ia ni ic] 39 n5 hn5.out)
          have HBA := Lib.hid ((Below.refl wo.heap.size wo).alloc (Nat.le_refl _) (.cells #[.int .u8 k, .slice ia ni ic] 39))
          have HN5 : Hid (n5 ≠ bm) := Lib.hid (by have := HFr.out.lt; rw [hn5.out]; omega)
          have q0 := HR1.out.cell 0 (.int .u8 k) rfl
          have q1 := HR1.out.cell 1 (.slice ia ni ic) rfl
          go_wp2_with (first
            | (refine wpList_load_mid rfl 39 _ rfl b (off + j * 2) rfl [.int .u8 k, .slice ia ni ic] _ HRNG.out Try.underlying39 rfl (by kernel_rfl) ?_)
            | (refine wpList_store_list rfl _ _ rfl wo #[.int .u8 0, .slice none 0 0] #[.int .u8 k, .slice ia ni ic] rfl rfl (fun u hu => by simp at hu; rcases hu with rfl | rfl <;> rfl) rfl rfl ?_; rw [← hn5.out]))
          clear q0 q1
          go_loopw [44] (fun i_ wr => ∃ (i : Nat), i ≤ ni ∧ i_ = .int .i64 i ∧ Hid (FrS wr bf bb bm (keysI k (keysL (LA.take j)) ((x.i.take i).map ItV.it)) (n + i)) ∧ Hid (RowAt wr n5 #[.int .u8 k, .slice ia ni ic]) ∧ Hid (Chg [bm] wo wr)) (fun i_ _ => ni - (intOf i_).toNat)
          case atStart => exact ⟨0, Nat.zero_le _, rfl, Lib.hid (HFr.out.below HBA.out), HR1, Lib.hid (Below.chg HBA.out [bm])⟩
          case round =>
            obtain ⟨i, hi, rfl, HFi, HRi, HCi⟩ := hrel
            obtain ⟨wi, hwi⟩ : ∃ wi : World, wi = wr := ⟨_, rfl⟩
            subst hwi
            by_cases hlt3 : i < ni
            · obtain ⟨ib, io, y, s, m, c, hy, hia, hry, hyv, hym, hymc, hyc, hyb, hyl, hyC, hy1⟩ := (HITS.out.chgM HFr.out.mp HCi.out).item i (by rw [← HNI.out]; exact hlt3)
              cases hia
              have hdl3 : decide ((i : Int) < (ni : Int)) = true := by simp; omega
              have HYE := Lib.hid hy
              have HYL := Lib.hid hyl
              have HRY := Lib.hid hry
              have HYC := Lib.hid hyC
              have HY1 := Lib.hid hy1
              obtain ⟨X, hX⟩ : ∃ X, Hid (X = itC y) := ⟨_, Lib.hid rfl⟩
              have HBB := Lib.hid ((Below.refl wi.heap.size wi).alloc (Nat.le_refl _) (.cells X.toArray 49))
              have HFA := Lib.hid (HFi.out.below HBB.out)
              have HCL := Lib.hid (fresh_calls k y (wi.alloc (.cells X.toArray 49)) bb bm (n + i) _ HXK.out hyl (hyb.below HBB.out) (Nat.le_trans (HXD.out y (List.mem_of_getElem? hy)) (by omega)) HFA.out.cm HFA.out.mp (by have := HNJ.out; omega))
              rw [← hX.out] at HRY HYC HY1 HCL
              clear hry hyv hym hyb hyl hyC hy1 hy
              obtain ⟨n6, hn6⟩ : ∃ m, Hid (m = wi.heap.size) := ⟨_, Lib.hid rfl⟩
              have HXR := Lib.hid (RowAt.new wi X.toArray 49 n6 hn6.out)
              have HXRG : Hid ((wi.alloc (.cells X.toArray 49)).rangeAt n6 0 X) := Lib.hid (by have := HXR.out.range; simpa using this)
              have HRA := Lib.hid (HRi.out.alloc (.cells X.toArray 49))
              have p0 := HRA.out.cell 0 (.int .u8 k) rfl
              have p1 := HFA.out.cf
              go_wp2_with (first
                | (refine wpList_load_mid rfl 49 _ rfl ib (io + i * 17) rfl X _ HRY.out Try.underlying49 rfl (by rw [HYC.out]; kernel_rfl) ?_)
                | (refine wpList_store_item rfl _ _ rfl wi _ X rfl HYC.out HY1.out rfl rfl ?_; rw [← hn6.out])
                | (refine wpList_load_mid rfl 49 _ rfl n6 0 rfl X _ HXRG.out Try.underlying49 rfl (by rw [HYC.out]; kernel_rfl) ?_))
              refine HCL.out.mono ?_
              rintro e w5 ⟨B', _, rfl, hm', hc'⟩
              have HF5 : Hid (FrS w5 bf bb bm (keysI k (keysL (LA.take j)) ((x.i.take (i + 1)).map ItV.it)) (n + (i + 1))) := Lib.hid (by
                rw [take_it HYE.out, keysI_snoc]
                exact HFA.out.add (x := y.it) hc' hm' HYL.out)
              have HR5 := Lib.hid (HRA.out.chg hc' (by simpa using HN5.out))
              have HC5 := Lib.hid ((HCi.out.below HBB.out).trans hc')
              clear hm' hc' HCL p0 p1
              go_wp2
              go_roundw
              case rel => exact ⟨i + 1, hlt3, by go_num, HF5, HR5, HC5⟩
              case measure => simp [intOf]; omega
            · obtain rfl : ni = i := by omega
              have hdl3 : decide ((ni : Int) < (ni : Int)) = false := by simp
              have HF5 : Hid (FrS wi bf bb bm (keysL (LA.take (j + 1))) (n + ni)) := Lib.hid (by
                have h := HFi.out
                rw [List.take_of_length_le (l := x.i) (by rw [← HNI.out]; exact Nat.le_refl _)] at h
                rw [take_at (show LA[j]? = some x.li by rw [← HM1.out]; exact li_at HX.out), keysL_snoc]
                rw [hk.out] at h
                exact h)
              have HN5' : Hid (n + ni ≤ (j + 1) * 400000) := Lib.hid (by have := HNJ.out; omega)
              have HC5 := Lib.hid (HCr.out.trans HCi.out)
              go_wp2
              go_roundw
              case rel => exact ⟨j + 1, n + ni, hlt, by go_num, HN5', HF5, HC5⟩
              case measure => simp [intOf]; omega
        · obtain rfl : m1 = j := by omega
          have hdl : decide ((m1 : Int) < (m1 : Int)) = false := by simp
          have HRL0 : Hid (Own wo w.heap.size 39 2 (.slice a1 m1 c1) xs.length (lisC xs)) := Lib.hid (HO13.out.row.chgM HF3.out.mp HCr.out)
          have HRM0 : Hid (Own wo w.heap.size 39 2 (.slice a2 m2 c2) ms.length (lisC ms)) := Lib.hid ((HO23.out.row.mono HB1.out.size).chgM HF3.out.mp HCr.out)
          have HNE0 : Hid (∀ q, ownB (.slice a1 m1 c1) = some q → ownB (.slice a2 m2 c2) ≠ some q) := Lib.hid (fun q hq e => by
            have h1 := HL1.out q hq
            have h2 := (Own.lt HO23.out.row q e).1
            omega)
          have HSET0 : Hid (OwnSet wo w.heap.size (xs ++ ms.drop 0)) := Lib.hid ((HO13.out.set.join HO23.out.set HB1.out.size HL2.out).chgM HF3.out.mp HCr.out)
          have HF0 : Hid (FrS wo bf bb bm (mrgK LA LB 0) n) := Lib.hid (by
            have h := HFr.out
            rw [List.take_of_length_le (by rw [← HM1.out, List.length_map, ← HM1N.out]; exact Nat.le_refl _)] at h
            rw [mrgK_zero]
            exact h)
          have HBW0 : Hid (Below w.heap.size w wo) := Lib.hid (Below.andChg HB3.out HCr.out HB3.out.size (fun q hq => by rw [List.mem_singleton.1 hq]; exact HBM.out))
          have HNJ0 : Hid (n ≤ 160000000000 + 0 * 400000) := Lib.hid (by have := HNJ.out; omega)
          have HMAP0 : Hid (xs.map LiV.li = mrgA LA LB 0) := Lib.hid (by rw [mrgA_zero]; exact HM1.out)
          clear HFr HNJ HCr
          go_wp2
          go_loopw [57, 6] (fun i_ l_ wr => ∃ (j n : Nat) (la : Option Addr) (ln lc : Nat) (ys : List LiV), j ≤ m2 ∧ i_ = .int .i64 j ∧ l_ = .slice la ln lc ∧ Hid (ys.map LiV.li = mrgA LA LB j) ∧ Hid (Own wr w.heap.size 39 2 (.slice la ln lc) ys.length (lisC ys)) ∧ Hid (Own wr w.heap.size 39 2 (.slice a2 m2 c2) ms.length (lisC ms)) ∧ Hid (∀ q, ownB (.slice la ln lc) = some q → ownB (.slice a2 m2 c2) ≠ some q) ∧ Hid (OwnSet wr w.heap.size (ys ++ ms.drop j)) ∧ Hid (FrS wr bf bb bm (mrgK LA LB j) n) ∧ Hid (n ≤ 160000000000 + j * 400000) ∧ Hid (Below w.heap.size w wr)) (fun i_ _ _ => m2 - (intOf i_).toNat)
          case atStart => exact ⟨0, n, a1, m1, c1, xs, Nat.zero_le _, rfl, rfl, HMAP0, HRL0, HRM0, HNE0, HSET0, HF0, HNJ0, HBW0⟩
          case round =>
            clear HRL0 HRM0 HNE0 HSET0 HF0 HNJ0 HBW0 HMAP0 n
            obtain ⟨j, n, la, ln, lc, ys, hj2, rfl, rfl, HMAP, HRL, HRM, HNE, HSET, HFr, HNJ, HBW⟩ := hrel
            obtain ⟨wq, hwq⟩ : ∃ wq : World, wq = wr := ⟨_, rfl⟩
            subst hwq
            by_cases hlt2 : j < m2
            · have hdl2 : decide ((j : Int) < (m2 : Int)) = true := by simp; omega
              obtain ⟨x, hx⟩ : ∃ x, ms[j]? = some x := ⟨_, List.getElem?_eq_getElem (by rw [← HM2N.out]; exact hlt2)⟩
              obtain ⟨hmx, b, off, ha2, hrow⟩ := own_row_at HRM.out hx
              clear hmx
              subst ha2
              have HX := Lib.hid hx
              have HSX : Hid (OwnSet wq w.heap.size (ys ++ x :: ms.drop (j + 1))) := Lib.hid (by rw [← drop_cons hx]; exact HSET.out)
              have hits := HSX.out.its x (by simp)
              obtain ⟨ia, ic, hxv, _, _⟩ := Own.shape hits.row
              obtain ⟨ni, hni⟩ : ∃ m, Hid (m = x.i.length) := ⟨_, Lib.hid rfl⟩
              obtain ⟨k, hk⟩ : ∃ k, Hid (k = x.k) := ⟨_, Lib.hid rfl⟩
              rw [← hni.out] at hxv
              have HITS := Lib.hid hits
              rw [hxv] at hrow HITS
              rw [← hk.out] at hrow
              have HRNG := Lib.hid hrow
              have HXV := Lib.hid hxv
              have HXI : Hid (ni ≤ 400000) := Lib.hid (by rw [hni.out]; exact HN2.out.2 x (List.mem_of_getElem? hx))
              have hni4 := HXI.out
              have HXK : Hid (0 ≤ k ∧ k ≤ 255) := Lib.hid (by rw [hk.out]; exact HO2.out.kind x (List.mem_of_getElem? hx))
              have HXD := Lib.hid (HDB.out x (List.mem_of_getElem? hx))
              clear hrow hx hxv hits
              obtain ⟨n16, hn16⟩ : ∃ m, Hid (m = wq.heap.size) := ⟨_, Lib.hid rfl⟩
              obtain ⟨wi, hwi⟩ : ∃ W, Hid (W = wq.alloc (.cells #[.int .u8 k, .slice ia ni ic] 39)) := ⟨_, Lib.hid rfl⟩
              have HR1 : Hid (RowAt wi n16 #[.int .u8 k, .slice ia ni ic]) := Lib.hid (by rw [hwi.out]; exact RowAt.new wq #[.int .u8 k, .slice ia ni ic] 39 n16 hn16.out)
              have HBA : Hid (Below wq.heap.size wq wi) := Lib.hid (by rw [hwi.out]; exact (Below.refl wq.heap.size wq).alloc (Nat.le_refl _) _)
              have HH1 : Hid (wi.heap[n16]? = some (.cells #[.int .u8 k, .slice ia ni ic] 39 (0, 0))) := Lib.hid (by rw [hwi.out, hn16.out]; exact heap_alloc_new wq _)
              have HFA := Lib.hid (HFr.out.below HBA.out)
              have HIA := Lib.hid (HITS.out.below HBA.out)
              have HQL : Hid (∀ q, ownB (.slice ia ni ic) = some q → q ≠ bf ∧ q ≠ n16 ∧ q ≠ bb) := Lib.hid (fun q hq => by
                refine ⟨fun e => ?_, fun e => ?_, fun e => ?_⟩
                · subst e; exact HITS.out.row.neC HFr.out.hf (by decide) hq
                · subst e
                  have := (Own.lt HITS.out.row _ hq).2
                  have := hn16.out
                  omega
                · subst e; exact HITS.out.row.neC HFr.out.hb (by decide) hq)
              have HDL := Lib.hid (dlf_calls (.slice ia ni ic) x.i wi w.heap.size bf n16 bb bm n k (mrgK LA LB j) HXK.out HIA.out (by rw [← hni.out]; omega) (fun y hy => Nat.le_trans (HXD.out y hy) (by omega)) (HFA.out.del (HR1.out.cell 0 _ rfl)) (by have := HNJ.out; omega) HQL.out)
              have q0 := HR1.out.cell 0 (.int .u8 k) rfl
              have q1 := HR1.out.cell 1 (.slice ia ni ic) rfl
              go_wp2_with (first
                | (refine wpList_load_mid rfl 39 _ rfl b (off + j * 2) rfl [.int .u8 k, .slice ia ni ic] _ HRNG.out Try.underlying39 rfl (by kernel_rfl) ?_)
                | (refine wpList_store_list rfl _ _ rfl wq #[.int .u8 0, .slice none 0 0] #[.int .u8 k, .slice ia ni ic] rfl rfl (fun u hu => by simp at hu; rcases hu with rfl | rfl <;> rfl) rfl rfl ?_; rw [← hn16.out, ← hwi.out]))
              clear q0 q1
              refine HDL.out.mono ?_
              rintro e w5 ⟨az, mz, cz, zs, L, rfl, hmz, hown, hkeep, hdel, hsub, hch, hLs⟩
              have hb16 : wq.heap.size = n16 := hn16.out.symm
              have hq16 : ∀ q, ownB (.slice la ln lc) = some q → q ≠ n16 := fun q hq => by have := (Own.lt HRL.out q hq).2; omega
              have hm16 : ∀ q, ownB (.slice (some ⟨b, off, none⟩) m2 c2) = some q → q ≠ n16 := fun q hq => by have := (Own.lt HRM.out q hq).2; omega
              have hfl := HFr.out.lt
              have HLn : Hid (n16 ∉ L) := Lib.hid (fun h => by
                rcases hLs n16 h with e | e
                · omega
                · exact (HQL.out n16 e).2.1 rfl)
              have HLf : Hid (bf ∉ L) := Lib.hid (fun h => by
                rcases hLs bf h with e | e
                · exact HFA.out.nem.1 e
                · exact (HQL.out bf e).1 rfl)
              have HLb : Hid (bb ∉ L) := Lib.hid (fun h => by
                rcases hLs bb h with e | e
                · exact HFA.out.nem.2 e
                · exact (HQL.out bb e).2.2 rfl)
              have HLl : Hid (∀ q ∈ L, ownB (.slice la ln lc) ≠ some q) := Lib.hid (fun q hq e => by
                rcases hLs q hq with rfl | e2
                · exact HRL.out.neM HFr.out.mp e
                · exact own_kinds HITS.out.row HRL.out (by decide) q e2 e)
              have HLm : Hid (∀ q ∈ L, ownB (.slice (some ⟨b, off, none⟩) m2 c2) ≠ some q) := Lib.hid (fun q hq e => by
                rcases hLs q hq with rfl | e2
                · exact HRM.out.neM HFr.out.mp e
                · exact own_kinds HITS.out.row HRM.out (by decide) q e2 e)
              have HR5 := Lib.hid (HR1.out.chg hch HLn.out)
              have r1 := HR5.out.cell 1 (.slice ia ni ic) rfl
              have rf := HR5.out.free
              have HH5 : Hid (w5.heap[n16]? = some (.cells #[.int .u8 k, .slice ia ni ic] 39 (0, 0))) := Lib.hid ((hch.block n16 HR1.out.lt HLn.out).trans HH1.out)
              have HC6 : Hid (Chg [n16] w5 (w5.setCell ⟨n16, 1, none⟩ (.slice az mz cz))) := Lib.hid ((Chg.refl _ _).setCell (by simp) _)
              have HR6 : Hid (RowAt (w5.setCell ⟨n16, 1, none⟩ (.slice az mz cz)) n16 #[.int .u8 k, .slice az mz cz]) := Lib.hid (HR5.out.set (i := 1) (u := .slice az mz cz) (by simp))
              have HRL6 := Lib.hid (((HRL.out.below HBA.out (Nat.le_refl _)).chg hch HLl.out).chg HC6.out (fun q hq e => by rw [List.mem_singleton.1 hq] at e; exact hq16 n16 e rfl))
              have HRM6 := Lib.hid (((HRM.out.below HBA.out (Nat.le_refl _)).chg hch HLm.out).chg HC6.out (fun q hq e => by rw [List.mem_singleton.1 hq] at e; exact hm16 n16 e rfl))
              have HS5 : Hid (OwnSet w5 w.heap.size (ys ++ ⟨k, zs, .slice az mz cz⟩ :: ms.drop (j + 1))) := Lib.hid (OwnSet.upd (x := x) (x' := ⟨k, zs, .slice az mz cz⟩) (HSX.out.below HBA.out) hch (by rw [HXV.out]; exact hLs) HFA.out.mp hk.out hown (by rw [HXV.out]; exact hsub))
              have HS6 := Lib.hid (HS5.out.far HH5.out HC6.out)
              have HKS : Hid (mrgK LA LB (j + 1) = keysI k (mrgK LA LB j) (x.i.map ItV.it)) := Lib.hid (by
                rw [mrgK_step (show LB[j]? = some x.li by rw [← HM2.out]; exact li_at HX.out), hk.out]
                rfl)
              have HF6 : Hid (FrS (w5.setCell ⟨n16, 1, none⟩ (.slice az mz cz)) bf bb bm (mrgK LA LB (j + 1)) (n + x.i.length)) := Lib.hid (by
                rw [HKS.out]
                exact (HFA.out.step hch HLf.out HLb.out hdel.mp hdel.ow).chg HC6.out (by simp; omega) (by simp; omega) (by simp; omega))
              have HNJ6 : Hid (n + x.i.length ≤ 160000000000 + (j + 1) * 400000) := Lib.hid (by rw [← hni.out]; have := HNJ.out; omega)
              have HB6 : Hid (Below w.heap.size w (w5.setCell ⟨n16, 1, none⟩ (.slice az mz cz))) := Lib.hid (by
                have h1 := HBW.out.trans (HBA.out.mono HBW.out.size)
                have h2 := Below.andChg h1 hch h1.size (fun q hq => by
                  rcases hLs q hq with rfl | e
                  · exact HBM.out
                  · exact (Own.lt HITS.out.row q e).1)
                exact h2.setCell (p := ⟨n16, 1, none⟩) (by have := HBW.out.size; show w.heap.size ≤ n16; omega) _)
              have HADD : Hid (mrgA LA LB (j + 1) = addL (mrgA LA LB j) (mrgK LA LB j) x.li) := Lib.hid (mrgA_step (show LB[j]? = some x.li by rw [← HM2.out]; exact li_at HX.out))
              have HKP : Hid (zs.map ItV.it = keepI x.li.k (mrgK LA LB j) x.li.i) := Lib.hid (by rw [hkeep, hk.out]; rfl)
              have HMZ := Lib.hid hmz
              clear hown hkeep hdel hsub hch hLs hmz hb16 hq16 hm16 hfl HDL HR1 HR5
              by_cases hz : zs = []
              · obtain rfl : mz = 0 := by rw [HMZ.out, hz]; rfl
                have hgt : decide ((0 : Int) < ((0 : Nat) : Int)) = false := by simp
                have HM7 : Hid (ys.map LiV.li = mrgA LA LB (j + 1)) := Lib.hid (by
                  rw [HADD.out, addL_nil (by rw [← HKP.out, hz]; rfl)]
                  exact HMAP.out)
                have HS7 := Lib.hid (HS6.out.sub ((List.sublist_cons_self _ _).append_left ys))
                clear hz
                have s0 := HR6.out.cell 0 _ rfl
                have s1 := HR6.out.cell 1 _ rfl
                go_wp2
                go_roundw
                case rel => exact ⟨j + 1, n + x.i.length, la, ln, lc, ys, hlt2, by go_num, rfl, HM7, HRL6, HRM6, HNE, HS7, HF6, HNJ6, HB6⟩
                case measure => simp [intOf]; omega
              · have hmz0 : 0 < mz := by rw [HMZ.out]; exact List.length_pos_iff.2 hz
                have hgt : decide ((0 : Int) < (mz : Int)) = true := by simp; omega
                have s0 := HR6.out.cell 0 _ rfl
                have s1 := HR6.out.cell 1 _ rfl
                have HYL : Hid (ys.length ≤ 1000000) := Lib.hid (by
                  have hl : j ≤ LB.length := by rw [← HM2.out, List.length_map, ← HM2N.out]; omega
                  have h := mrgA_len LA LB j hl
                  rw [← HMAP.out, List.length_map, ← HM1.out, List.length_map, ← HM1N.out] at h
                  omega)
                have HRL7 := Lib.hid (HRL6.out.alloc (.cells #[.int .u8 k, .slice az mz cz] 39))
                have HRM7 := Lib.hid (HRM6.out.alloc (.cells #[.int .u8 k, .slice az mz cz] 39))
                have HBL7 := Lib.hid ((Below.refl (w5.setCell ⟨n16, 1, none⟩ (.slice az mz cz)).heap.size _).alloc (Nat.le_refl _) (.cells #[.int .u8 k, .slice az mz cz] 39))
                have HS7 := Lib.hid (HS6.out.below HBL7.out)
                have HF7 := Lib.hid (HF6.out.below HBL7.out)
                have HB7 := Lib.hid (HB6.out.alloc HB6.out.size (.cells #[.int .u8 k, .slice az mz cz] 39))
                have HRA : Hid (Rd ((w5.setCell ⟨n16, 1, none⟩ (.slice az mz cz)).alloc (.cells #[.int .u8 k, .slice az mz cz] 39)) 2 (.slice (some ⟨w5.heap.size, 0, none⟩) 1 1) 1 [.int .u8 k, .slice az mz cz]) := Lib.hid (by
                  have := rd_one (w := w5.setCell ⟨n16, 1, none⟩ (.slice az mz cz)) (X := [.int .u8 k, .slice az mz cz]) (t := 39)
                  rw [show (w5.setCell ⟨n16, 1, none⟩ (.slice az mz cz)).heap.size = w5.heap.size by simp [World.setCell]] at this
                  exact this)
                have HM8 : Hid ((ys ++ [(⟨k, zs, .slice az mz cz⟩ : LiV)]).map LiV.li = mrgA LA LB (j + 1)) := Lib.hid (by
                  rw [HADD.out, addL_some (by rw [← HKP.out]; simpa using hz), List.map_append, HMAP.out, ← HKP.out]
                  have hkx : x.li.k = k := hk.out.symm
                  rw [hkx]
                  rfl)
                clear hz
                go_wp2_with (first
                  | (at_builtin; refine wpList_append_list rfl _ _ rfl w.heap.size (.slice la ln lc) ys.length (lisC ys) rfl HRL7.out (.slice (some ⟨w5.heap.size, 0, none⟩) 1 1) [.int .u8 k, .slice az mz cz] rfl HRA.out (by intro u hu; simp only [List.mem_cons, List.not_mem_nil, or_false] at hu; rcases hu with hu | hu <;> (rw [hu]; rfl)) (by have := HYL.out; omega) HB7.out.size ?_; intro v8 w8 ho8 hg8 hn8; obtain ⟨la8, lc8, rfl, _, _⟩ := Own.shape ho8)
                  | fail)
                have HRL8 : Hid (Own w8 w.heap.size 39 2 (.slice la8 (ys.length + 1) lc8) (ys ++ [(⟨k, zs, .slice az mz cz⟩ : LiV)]).length (lisC (ys ++ [(⟨k, zs, .slice az mz cz⟩ : LiV)]))) := Lib.hid (by
                  rw [lisC_snoc, List.length_append]
                  exact ho8)
                have HRM8 : Hid (Own w8 w.heap.size 39 2 (.slice (some ⟨b, off, none⟩) m2 c2) ms.length (lisC ms)) := Lib.hid (Own.kept HRM7.out hg8 (fun q hq e => HNE.out q e hq))
                have HNE8 : Hid (∀ q, ownB (.slice la8 (ys.length + 1) lc8) = some q → ownB (.slice (some ⟨b, off, none⟩) m2 c2) ≠ some q) := Lib.hid (fun q hq e => by
                  rcases hn8 with h | ⟨g, h, hge⟩
                  · rw [h] at hq
                    exact HNE.out q hq e
                  · rw [h] at hq
                    cases hq
                    have := (Own.lt HRM7.out _ e).2
                    omega)
                have HS8 : Hid (OwnSet w8 w.heap.size ((ys ++ [(⟨k, zs, .slice az mz cz⟩ : LiV)]) ++ ms.drop (j + 1))) := Lib.hid (by
                  rw [List.append_assoc]
                  exact HS7.out.grown HRL7.out hg8)
                have HF8 : Hid (FrS w8 bf bb bm (mrgK LA LB (j + 1)) (n + x.i.length)) := Lib.hid (HF7.out.chg (L := (ownB (.slice la ln lc)).toList) (Chg.of_grown hg8 (fun q hq => by rw [hq]; simp))
                  (fun h => HRL7.out.neC HF7.out.hf (by decide) (by simpa using h)) (fun h => HRL7.out.neC HF7.out.hb (by decide) (by simpa using h)) (fun h => HRL7.out.neM HF7.out.mp (by simpa using h)))
                have HB8 : Hid (Below w.heap.size w w8) := Lib.hid (HB7.out.grown hg8 HB7.out.size (fun q hq => (Own.lt HRL7.out q hq).1))
                clear ho8 hg8 hn8
                go_wp2
                go_roundw
                case rel => exact ⟨j + 1, n + x.i.length, la8, ys.length + 1, lc8, ys ++ [⟨k, zs, .slice az mz cz⟩], hlt2, by go_num, rfl, HM8, HRL8, HRM8, HNE8, HS8, HF8, HNJ6, HB8⟩
                case measure => simp [intOf]; omega
            · obtain rfl : m2 = j := by omega
              have hdl2 : decide ((m2 : Int) < (m2 : Int)) = false := by simp
              have HLB : Hid (m2 = LB.length) := Lib.hid (by rw [← HM2.out, List.length_map]; exact HM2N.out)
              have HYS : Hid (OwnSet wq w.heap.size ys) := Lib.hid (HSET.out.sub (List.sublist_append_left _ _))
              have HLIS := Lib.hid (HYS.out.lis HRL.out)
              have HQ : Hid (ys.map LiV.li = mrgQ A B) := Lib.hid (by rw [HMAP.out]; unfold mrgQ; rw [← hLA.out, ← hLB.out, ← HLB.out])
              have HBND : Hid (∀ x ∈ mrgA LA LB m2, x.i.length ≤ 400000) := Lib.hid (mrgA_bound 400000 LA LB (fun x hx => by rw [← HM1.out] at hx; obtain ⟨z, hz, rfl⟩ := List.mem_map.1 hx; have := HN1.out.2 z hz; simpa [LiV.li] using this) (fun x hx => by rw [← HM2.out] at hx; obtain ⟨z, hz, rfl⟩ := List.mem_map.1 hx; have := HN2.out.2 z hz; simpa [LiV.li] using this) m2 (by rw [← HLB.out]; exact Nat.le_refl _))
              have HWB : Hid (wrB (mrgA LA LB m2) = true) := Lib.hid (wrB_mrg (by rw [hLA.out]; exact (resL_good A).1) (by rw [hLB.out]; exact (resL_good B).1) m2 (by rw [← HLB.out]; exact Nat.le_refl _))
              have HLEN : Hid (ys.length ≤ 1000000) := Lib.hid (by
                have h := mrgA_len LA LB m2 (by rw [← HLB.out]; exact Nat.le_refl _)
                rw [← HMAP.out, List.length_map, ← HM1.out, List.length_map, ← HM1N.out] at h
                omega)
              have HWR := Lib.hid (sgWrite_calls (.slice la ln lc) ys wq HLIS.out HLEN.out (fun x hx => by
                have h := HBND.out x.li (by rw [← HMAP.out]; exact List.mem_map.2 ⟨x, hx, rfl⟩)
                have h2 : x.i.length ≤ 400000 := by simpa [LiV.li] using h
                omega) (fun x hx y hy => Nat.le_trans (data_of HMAP.out HWB.out x hx y hy) (by omega)))
              go_wp2_with fail
              refine HWR.out.mono ?_
              rintro e w9 ⟨a9, n9, c9, rfl, ho9, hb9⟩
              have HO9 := Lib.hid ho9
              have HB9 := Lib.hid hb9
              clear ho9 hb9 HWR
              obtain ⟨E9, hE9⟩ : ∃ E, Hid (E = wrE (ys.map LiV.li)) := ⟨_, Lib.hid rfl⟩
              rw [← hE9.out]
              go_wp2
              go_ret2
              have h1 : mrgE A B = wrE (mrgQ A B) := by unfold mrgE; rw [if_pos hEA.out.symm, if_pos hEB.out.symm]
              have h2 : mrgR A B = wrR (mrgQ A B) := by unfold mrgR; rw [if_pos ⟨hEA.out.symm, hEB.out.symm⟩]
              have h3 : mrgE A B = E9 := by rw [h1, ← HQ.out, hE9.out]
              refine ⟨a9, n9, c9, by rw [h3]; rfl, ?_, HBW.out.trans (HB9.out.mono HBW.out.size)⟩
              rw [h2, ← HQ.out]
              exact HO9.out.mono HBW.out.size
end Go.Proofs.Ytilanncobbdlfaa

/-
  The contract of the document's stands: does an item stand in lists?
-/
namespace Go.Proofs.Ytilanncobbdlfaa
open Go Go.RowKit
set_option linter.unusedVariables false

/-- A load that is guarded, at the list of a plain region's operations. -/
theorem wpList_load_midg {ops : Array Oper} {rest : List Oper} {op : Oper} {a : Act} {w : World} {Q : Exit → Act → World → Prop} (hw : Region.wanted op (yielded ops a.tmps) = true) (ty : TypeId) (x : Operand) (ho : op.op = .load ty x)
    (b o : Nat) (hx : a.eval x = .pointer (some ⟨b, o, none⟩)) (cs : List Value) (d : TypeDesc) (hc : w.rangeAt b o cs)
    (hu : Try.prog.underlying ty = some d) (hd : d.isRow = true) (hi : (Try.prog.info? ty).map (·.size) = some cs.length)
    (h : wpList Try.prog ops Q rest (a.put op.dst (.agg cs.toArray)) w) : wpList Try.prog ops Q (op :: rest) a w :=
  wpList_step fun _ hK => by
    rw [if_pos hw]
    exact wp_load_mid ty x ho b o hx cs d hc hu hd hi (hK _ _ h)
theorem itC_own_range {w : World} {b : Nat} {y : ItV} (h : RowAt w b (itC y).toArray) : w.rangeAt b 0 (y.o.map b8) := range_pre (ys := [y.v]) (by have := h.range; simpa [itC] using this)
theorem own_range_of {w : World} {b : Nat} {X : List Value} {y : ItV} (h : RowAt w b X.toArray) (hX : X = itC y) : w.rangeAt b 0 (y.o.map b8) := by
  subst hX
  exact itC_own_range h
theorem it_eq {y z : ItV} : z.it = y.it ↔ y.o = z.o ∧ y.d = z.d := by
  unfold ItV.it
  constructor
  · intro h
    injection h with h1 h2
    exact ⟨h1.symm, h2.symm⟩
  · rintro ⟨h1, h2⟩
    rw [h1, h2]
set_option maxRecDepth 100000 in
set_option maxHeartbeats 1000000 in
theorem stands_calls (v : Value) (xs : List LiV) (K : Int) (y : ItV) (w : World) (hv : Lis w v xs) (hyb : Byt w y.v y.d) (hyl : y.o.length = 16) (hn : xs.length ≤ 1000000000) (hi : ∀ x ∈ xs, x.i.length ≤ 1000000000) :
    Calls Try.prog 28 #[v, .int .u8 K, .agg (itC y).toArray] w fun e w' => ∃ B : Bool, (B = true ↔ inL (xs.map LiV.li) (K, y.it)) ∧ e = .returned (.bool B) ∧ Below w.heap.size w w' := by
  have HV := Lib.hid hv
  have HI := Lib.hid hi
  have HYB := Lib.hid hyb
  have HYL := Lib.hid hyl
  obtain ⟨a, cap, rfl, h1, h2⟩ := hv.open
  obtain ⟨ya, yc, hyv, _, _⟩ := hyb.open
  clear hv hi hyb hyl
  obtain ⟨N, hN⟩ : ∃ n, Hid (n = xs.length) := ⟨_, Lib.hid rfl⟩
  rw [← hN.out] at HV h1 hn ⊢
  obtain ⟨Y, hY⟩ : ∃ Y, Hid (Y = itC y) := ⟨_, Lib.hid rfl⟩
  have HR0 := Lib.hid (RowAt.new w (itC y).toArray 49 w.heap.size rfl)
  have HB0 := Lib.hid ((Below.refl w.heap.size w).alloc (Nat.le_refl _) (.cells Y.toArray 49))
  rw [← hY.out] at HR0 ⊢
  obtain ⟨ym, hym⟩ : ∃ m, Hid (m = y.d.length) := ⟨_, Lib.hid rfl⟩
  rw [← hym.out] at hyv
  have HYV := Lib.hid hyv
  clear hyv
  obtain ⟨G1, hG1⟩ : ∃ G, Hid (G = y.o.map b8) := ⟨_, Lib.hid rfl⟩
  obtain ⟨S1, hS1⟩ : ∃ S, Hid (S = sOf y.d) := ⟨_, Lib.hid rfl⟩
  go_enter Try.func28, Try.ntmps28
  go_wp2
  go_loopw [7] (fun i_ wr => ∃ j : Nat, j ≤ N ∧ i_ = .int .i64 j ∧ Hid (∀ r x, r < j → xs[r]? = some x → ¬ (x.k = K ∧ y.it ∈ x.li.i)) ∧ Hid (RowAt wr w.heap.size Y.toArray) ∧ Hid (Below w.heap.size w wr)) (fun i_ _ => N - (intOf i_).toNat)
  case atStart => exact ⟨0, Nat.zero_le _, rfl, Lib.hid (fun r x hr => absurd hr (Nat.not_lt_zero _)), HR0, HB0⟩
  case round =>
    obtain ⟨j, hj, rfl, hgood, HR, HB⟩ := hrel
    obtain ⟨wo, hwo⟩ : ∃ wo : World, wo = wr := ⟨_, rfl⟩
    subst hwo
    by_cases hlt : j < N
    · obtain ⟨b, off, x, ia, n, ic, hx, ha, hrow, hxv, hm, hmc, hc, hits⟩ := HV.out.item j (by rw [← hN.out]; exact hlt)
      subst ha
      have hdl : decide ((j : Int) < (N : Int)) = true := by simp; omega
      have HX := Lib.hid hx
      have HRNG := Lib.hid hrow
      have HITS := Lib.hid hits
      have HNI := Lib.hid hm
      have hnb : n ≤ 1000000000 := by rw [hm]; exact HI.out x (List.mem_of_getElem? hx)
      obtain ⟨k, hk⟩ : ∃ k, Hid (k = x.k) := ⟨_, Lib.hid rfl⟩
      rw [← hk.out] at HRNG
      clear hrow hx hxv hm hits
      go_wp2
      go_loopw [8] (fun i_ wr => ∃ i : Nat, i ≤ n ∧ i_ = .int .i64 i ∧ Hid (∀ r z, r < i → x.i[r]? = some z → ¬ (k = K ∧ z.it = y.it)) ∧ Hid (RowAt wr w.heap.size Y.toArray) ∧ Hid (Below w.heap.size w wr)) (fun i_ _ => n - (intOf i_).toNat)
      case atStart => exact ⟨0, Nat.zero_le _, rfl, Lib.hid (fun r z hr => absurd hr (Nat.not_lt_zero _)), HR, HB⟩
      case round =>
        obtain ⟨i, hi, rfl, hgi, HRi, HBi⟩ := hrel
        obtain ⟨wi, hwi⟩ : ∃ wi : World, wi = wr := ⟨_, rfl⟩
        subst hwi
        have HRG := Lib.hid (range_below HRNG.out HBi.out)
        have q0 : wi.cell? ⟨b, off + j * 2, none⟩ = some (.int .u8 k) := HRG.out 0 _ rfl
        have q1 : wi.cell? ⟨b, off + j * 2 + 1, none⟩ = some (.slice ia n ic) := HRG.out 1 _ rfl
        by_cases hlt3 : i < n
        · obtain ⟨ib, io, z, s, m, c, hz, hia, hrz, hzv, hzm, hzmc, hzc, hzb, hzl, hzC, hz1⟩ := HITS.out.item i (by rw [← HNI.out]; exact hlt3)
          cases hia
          have hdl3 : decide ((i : Int) < (n : Int)) = true := by simp; omega
          have HZE := Lib.hid hz
          have HZL := Lib.hid hzl
          have HRZ := Lib.hid (range_below hrz HBi.out)
          have HZC := Lib.hid hzC
          have HZ1 := Lib.hid hz1
          have HZV := Lib.hid hzv
          have HZB := Lib.hid hzb
          obtain ⟨Z, hZ⟩ : ∃ Z, Hid (Z = itC z) := ⟨_, Lib.hid rfl⟩
          have HZR := Lib.hid (RowAt.new wi (itC z).toArray 49 wi.heap.size rfl)
          rw [← hZ.out] at HRZ HZC HZ1 HZR
          clear hrz hzv hzm hzb hzl hzC hz1 hz
          obtain ⟨n6, hn6⟩ : ∃ m, Hid (m = wi.heap.size) := ⟨_, Lib.hid rfl⟩
          rw [← hn6.out] at HZR
          have HBA : Hid (Below wi.heap.size wi (wi.alloc (.cells Z.toArray 49))) := Lib.hid ((Below.refl wi.heap.size wi).alloc (Nat.le_refl _) _)
          have HRz := Lib.hid (HRi.out.below HBA.out)
          have HBz := Lib.hid (HBi.out.trans (HBA.out.mono HBi.out.size))
          have HRGz := Lib.hid (range_below HRNG.out HBz.out)
          have z0 : (wi.alloc (.cells Z.toArray 49)).cell? ⟨b, off + j * 2, none⟩ = some (.int .u8 k) := HRGz.out 0 _ rfl
          have z1 : (wi.alloc (.cells Z.toArray 49)).cell? ⟨b, off + j * 2 + 1, none⟩ = some (.slice (some ⟨ib, io, none⟩) n ic) := HRGz.out 1 _ rfl
          have HNEXT : Hid (¬ (k = K ∧ z.it = y.it) → ∀ r u, r < i + 1 → x.i[r]? = some u → ¬ (k = K ∧ u.it = y.it)) := Lib.hid (fun h r u hr hu => by
            by_cases e : r = i
            · subst e
              rw [HZE.out] at hu
              cases hu
              exact h
            · exact hgi.out r u (by omega) hu)
          by_cases hkk : k = K
          case neg =>
            have hke : (k == K) = false := by simp [hkk]
            have HG := Lib.hid (HNEXT.out (fun e => hkk e.1))
            clear hkk
            go_wp2_with (first
              | (with_reducible show wpList _ _ _ (⟨some 33, _, _, _, _, _⟩ :: _) _ _; refine wpList_load_mid rfl 49 _ rfl ib (io + i * 17) rfl Z _ HRZ.out Try.underlying49 rfl (by rw [HZC.out]; kernel_rfl) ?_)
              | (with_reducible show wpList _ _ _ (⟨none, _, _, _, _, _⟩ :: _) _ _; refine wpList_store_item rfl _ _ rfl wi _ Z rfl HZC.out HZ1.out rfl rfl ?_; rw [← hn6.out]))
            go_roundw
            case rel => exact ⟨i + 1, hlt3, by go_num, HG, HRz, HBz⟩
            case measure => simp [intOf]; omega
          case pos =>
            have hke : (k == K) = true := by simp [hkk]
            have HKK := Lib.hid hkk
            clear hkk
            obtain ⟨G2, hG2⟩ : ∃ G, Hid (G = z.o.map b8) := ⟨_, Lib.hid rfl⟩
            have HG1R : Hid ((wi.alloc (.cells Z.toArray 49)).rangeAt w.heap.size 0 G1) := Lib.hid (by rw [hG1.out]; exact own_range_of HRz.out hY.out)
            have HG2R : Hid ((wi.alloc (.cells Z.toArray 49)).rangeAt n6 0 G2) := Lib.hid (by rw [hG2.out]; exact own_range_of HZR.out hZ.out)
            have HG1L : Hid (G1.length = 16) := Lib.hid (by rw [hG1.out, List.length_map]; exact HYL.out)
            have HG2L : Hid (G2.length = 16) := Lib.hid (by rw [hG2.out, List.length_map]; exact HZL.out)
            have heg : ∀ W : World, (binOp .eql 47 (.agg G1.toArray) (.agg G2.toArray)).run Try.prog W = .ok (.bool (decide (y.o = z.o))) W := fun W => by rw [hG1.out, hG2.out]; exact run_gid_eq y.o z.o HYL.out HZL.out W
            by_cases hoo : y.o = z.o
            case neg =>
              rw [decide_eq_false hoo] at heg
              have HG := Lib.hid (HNEXT.out (fun e => hoo (it_eq.1 e.2).1))
              clear hoo
              go_wp2_with (first
                | (with_reducible show wpList _ _ _ (⟨some 33, _, _, _, _, _⟩ :: _) _ _; refine wpList_load_mid rfl 49 _ rfl ib (io + i * 17) rfl Z _ HRZ.out Try.underlying49 rfl (by rw [HZC.out]; kernel_rfl) ?_)
                | (with_reducible show wpList _ _ _ (⟨none, _, _, _, _, _⟩ :: _) _ _; refine wpList_store_item rfl _ _ rfl wi _ Z rfl HZC.out HZ1.out rfl rfl ?_; rw [← hn6.out])
                | (with_reducible show wpList _ _ _ (⟨some 43, _, _, _, _, _⟩ :: _) _ _; refine wpList_load_midg rfl 47 _ rfl w.heap.size 0 rfl G1 _ HG1R.out Try.underlying47 rfl (by rw [HG1L.out]; kernel_rfl) ?_)
                | (with_reducible show wpList _ _ _ (⟨some 45, _, _, _, _, _⟩ :: _) _ _; refine wpList_load_midg rfl 47 _ rfl n6 0 rfl G2 _ HG2R.out Try.underlying47 rfl (by rw [HG2L.out]; kernel_rfl) ?_))
              clear heg
              go_roundw
              case rel => exact ⟨i + 1, hlt3, by go_num, HG, HRz, HBz⟩
              case measure => simp [intOf]; omega
            case pos =>
              rw [decide_eq_true hoo] at heg
              have HOO := Lib.hid hoo
              clear hoo
              have y16 : (wi.alloc (.cells Z.toArray 49)).cell? ⟨w.heap.size, 16, none⟩ = some (.slice ya ym yc) := HRz.out.cell 16 _ (by rw [hY.out, ← HYV.out]; simpa using itC_at16 y HYL.out)
              have x16 : (wi.alloc (.cells Z.toArray 49)).cell? ⟨n6, 16, none⟩ = some (.slice s m c) := HZR.out.cell 16 _ (by rw [hZ.out, ← HZV.out]; simpa using itC_at16 z HZL.out)
              obtain ⟨S2, hS2⟩ : ∃ S, Hid (S = sOf z.d) := ⟨_, Lib.hid rfl⟩
              have cv1 : (convert 22 9 (.slice ya ym yc)).run Try.prog (wi.alloc (.cells Z.toArray 49)) = .ok (.string S1) (wi.alloc (.cells Z.toArray 49)) := by rw [hS1.out, ← HYV.out]; exact run_tostring (HYB.out.below HBz.out) _ _ _ Try.underlying22 Try.underlying5 Try.underlying9
              have cv2 : (convert 22 9 (.slice s m c)).run Try.prog (wi.alloc (.cells Z.toArray 49)) = .ok (.string S2) (wi.alloc (.cells Z.toArray 49)) := by rw [hS2.out, ← HZV.out]; exact run_tostring (HZB.out.below HBz.out) _ _ _ Try.underlying22 Try.underlying5 Try.underlying9
              obtain ⟨D, hD⟩ : ∃ D : Bool, Hid (D = decide (y.d = z.d)) := ⟨_, Lib.hid rfl⟩
              have hst : (S1.toList == S2.toList) = D := by rw [hS1.out, hS2.out, hD.out]; exact sOf_beq _ _
              cases D with
              | false =>
                have HG := Lib.hid (HNEXT.out (fun e => of_decide_eq_false hD.out.symm (it_eq.1 e.2).2))
                go_wp2_with (first
                  | (with_reducible show wpList _ _ _ (⟨some 33, _, _, _, _, _⟩ :: _) _ _; refine wpList_load_mid rfl 49 _ rfl ib (io + i * 17) rfl Z _ HRZ.out Try.underlying49 rfl (by rw [HZC.out]; kernel_rfl) ?_)
                  | (with_reducible show wpList _ _ _ (⟨none, _, _, _, _, _⟩ :: _) _ _; refine wpList_store_item rfl _ _ rfl wi _ Z rfl HZC.out HZ1.out rfl rfl ?_; rw [← hn6.out])
                  | (with_reducible show wpList _ _ _ (⟨some 43, _, _, _, _, _⟩ :: _) _ _; refine wpList_load_midg rfl 47 _ rfl w.heap.size 0 rfl G1 _ HG1R.out Try.underlying47 rfl (by rw [HG1L.out]; kernel_rfl) ?_)
                  | (with_reducible show wpList _ _ _ (⟨some 45, _, _, _, _, _⟩ :: _) _ _; refine wpList_load_midg rfl 47 _ rfl n6 0 rfl G2 _ HG2R.out Try.underlying47 rfl (by rw [HG2L.out]; kernel_rfl) ?_))
                clear heg cv1 cv2 hst
                go_roundw
                case rel => exact ⟨i + 1, hlt3, by go_num, HG, HRz, HBz⟩
                case measure => simp [intOf]; omega
              | true =>
                have HIT : Hid (inL (xs.map LiV.li) (K, y.it)) := Lib.hid ⟨x.li, List.mem_map.2 ⟨x, List.mem_of_getElem? HX.out, rfl⟩, hk.out.symm.trans HKK.out, List.mem_map.2 ⟨z, List.mem_of_getElem? HZE.out, it_eq.2 ⟨HOO.out, of_decide_eq_true hD.out.symm⟩⟩⟩
                go_wp2_with (first
                  | (with_reducible show wpList _ _ _ (⟨some 33, _, _, _, _, _⟩ :: _) _ _; refine wpList_load_mid rfl 49 _ rfl ib (io + i * 17) rfl Z _ HRZ.out Try.underlying49 rfl (by rw [HZC.out]; kernel_rfl) ?_)
                  | (with_reducible show wpList _ _ _ (⟨none, _, _, _, _, _⟩ :: _) _ _; refine wpList_store_item rfl _ _ rfl wi _ Z rfl HZC.out HZ1.out rfl rfl ?_; rw [← hn6.out])
                  | (with_reducible show wpList _ _ _ (⟨some 43, _, _, _, _, _⟩ :: _) _ _; refine wpList_load_midg rfl 47 _ rfl w.heap.size 0 rfl G1 _ HG1R.out Try.underlying47 rfl (by rw [HG1L.out]; kernel_rfl) ?_)
                  | (with_reducible show wpList _ _ _ (⟨some 45, _, _, _, _, _⟩ :: _) _ _; refine wpList_load_midg rfl 47 _ rfl n6 0 rfl G2 _ HG2R.out Try.underlying47 rfl (by rw [HG2L.out]; kernel_rfl) ?_))
                clear heg cv1 cv2 hst
                go_ret
                exact ⟨true, ⟨fun _ => HIT.out, fun _ => rfl⟩, rfl, HBz.out⟩
        · obtain rfl : n = i := by omega
          have hdl3 : decide ((n : Int) < (n : Int)) = false := by simp
          have HG : Hid (∀ r u, r < j + 1 → xs[r]? = some u → ¬ (u.k = K ∧ y.it ∈ u.li.i)) := Lib.hid (fun r u hr hu => by
            by_cases e : r = j
            · subst e
              rw [HX.out] at hu
              cases hu
              rintro ⟨h1, h2⟩
              obtain ⟨z, hz, e⟩ := List.mem_map.1 (show y.it ∈ x.i.map ItV.it from h2)
              obtain ⟨q, hq⟩ := List.mem_iff_getElem?.1 hz
              exact hgi.out q z (by rw [HNI.out]; exact (List.getElem?_eq_some_iff.1 hq).1) hq ⟨hk.out.trans h1, e⟩
            · exact hgood.out r u (by omega) hu)
          go_wp2
          go_roundw
          case rel => exact ⟨j + 1, hlt, by go_num, HG, HRi, HBi⟩
          case measure => simp [intOf]; omega
    · obtain rfl : N = j := by omega
      have hdl : decide ((N : Int) < (N : Int)) = false := by simp
      go_wp2
      go_ret
      refine ⟨false, ⟨fun h => (by cases h), ?_⟩, rfl, HB.out⟩
      rintro ⟨u, hu, h1, h2⟩
      obtain ⟨x, hx, rfl⟩ := List.mem_map.1 hu
      obtain ⟨q, hq⟩ := List.mem_iff_getElem?.1 hx
      exact absurd ⟨h1, h2⟩ (hgood.out q x (by rw [hN.out]; exact (List.getElem?_eq_some_iff.1 hq).1) hq)
end Go.Proofs.Ytilanncobbdlfaa

/-
  The contract of the document's Merge.
-/
namespace Go.Proofs.Ytilanncobbdlfaa
open Go Go.RowKit
set_option linter.unusedVariables false

theorem inL_one {k : Int} {zs : List It} {y : It} : inL [⟨k, zs⟩] (k, y) ↔ y ∈ zs := by
  constructor
  · rintro ⟨u, hu, _, h⟩
    rw [List.mem_singleton.1 hu] at h
    exact h
  · exact fun h => ⟨_, List.mem_singleton.2 rfl, rfl, h⟩
theorem ref_old {LA LB : List Li} {j : Nat} (hj : j ≤ LB.length) {k : Int} {l : List It} {y : It} (h : inL (mrgA LA LB j) (k, y)) : keepI k (mrgK LA LB j) (l ++ [y]) = keepI k (mrgK LA LB j) l := by
  rw [keepI_snoc, if_pos ((mem_keep k _ l _).2 (.inl ((inL_mrg LA LB j hj _).2 h))), List.append_nil]
theorem ref_twice {ks : List (Int × It)} {k : Int} {l : List It} {y : It} (h : inL [⟨k, keepI k ks l⟩] (k, y)) : keepI k ks (l ++ [y]) = keepI k ks l := by
  rw [keepI_snoc, if_pos ((mem_keep k _ l _).2 (.inr ⟨rfl, inL_one.1 h⟩)), List.append_nil]
theorem ref_new {LA LB : List Li} {j : Nat} (hj : j ≤ LB.length) {k : Int} {l : List It} {y : It} (h : ¬ inL (mrgA LA LB j) (k, y)) (h2 : ¬ inL [⟨k, keepI k (mrgK LA LB j) l⟩] (k, y)) : keepI k (mrgK LA LB j) (l ++ [y]) = keepI k (mrgK LA LB j) l ++ [y] := by
  rw [keepI_snoc, if_neg ?_]
  rw [mem_keep]
  rintro (e | ⟨_, e⟩)
  · exact h ((inL_mrg LA LB j hj _).1 e)
  · exact h2 (inL_one.2 e)
theorem wrE_ten {L : List Li} (h : wrB L = true) (h0 : wrE L ≠ 0) : wrE L = 10 ∧ wrR L = [] := by
  unfold wrE at h0
  unfold wrE wrR
  rw [h, if_pos rfl] at h0
  rw [h, if_pos rfl, if_pos rfl]
  split
  · rename_i e
    rw [if_pos e] at h0
    exact absurd rfl h0
  · exact ⟨rfl, rfl⟩
theorem OwnSet.snoc {w : World} {base b5 : Nat} {ys : List LiV} {k : Int} {zs : List ItV} {v : Value} (h : OwnSet w base ys) (hk : 0 ≤ k ∧ k ≤ 255) (hi : OwnIts w base v zs) (hlt : ∀ y ∈ ys, ∀ q, ownB y.v = some q → q < b5) (hge : ∀ q, ownB v = some q → b5 ≤ q) : OwnSet w base (ys ++ [⟨k, zs, v⟩]) := by
  refine ⟨fun x hx => ?_, fun x hx => ?_, List.pairwise_append.2 ⟨h.part, List.pairwise_singleton _ _, fun a ha b hb q hq hq2 => ?_⟩⟩
  · rcases List.mem_append.1 hx with hx | hx
    · exact h.kind x hx
    · rw [List.mem_singleton.1 hx]; exact hk
  · rcases List.mem_append.1 hx with hx | hx
    · exact h.its x hx
    · rw [List.mem_singleton.1 hx]; exact hi
  · rw [List.mem_singleton.1 hb] at hq2
    have := hlt a ha q hq
    have := hge q hq2
    omega

set_option maxRecDepth 100000 in
set_option maxHeartbeats 8000000 in
theorem refMerge_calls (va vb : Value) (A B : List UInt8) (w : World) (ha : Byt w va A) (hb : Byt w vb B) (hal : A.length ≤ 400000) (hbl : B.length ≤ 400000) :
    Calls Try.prog 12 #[va, vb] w (MrgRes A B w) := by
  have HA := Lib.hid ha
  have HB := Lib.hid hb
  clear ha hb
  obtain ⟨LA, hLA⟩ : ∃ X, Hid (X = resL A) := ⟨_, Lib.hid rfl⟩
  obtain ⟨EA, hEA⟩ : ∃ X, Hid (X = resE A) := ⟨_, Lib.hid rfl⟩
  obtain ⟨LB, hLB⟩ : ∃ X, Hid (X = resL B) := ⟨_, Lib.hid rfl⟩
  obtain ⟨EB, hEB⟩ : ∃ X, Hid (X = resE B) := ⟨_, Lib.hid rfl⟩
  go_enter Try.func12, Try.ntmps12
  go_wp2_with fail
  refine (rd_form (refReadAll_calls va A _ HA.out (by omega)) LA hLA.out EA hEA.out 400000 hal).mono ?_
  rintro e w1 ⟨a1, m1, c1, xs, rfl, ho, hm, hN, hm1, hb⟩
  have HB1 := Lib.hid hb
  have HO1 := Lib.hid ho
  have HM1 := Lib.hid hm
  have HN1 := Lib.hid hN
  have HL1 : Hid (∀ q, ownB (.slice a1 m1 c1) = some q → q < w1.heap.size) := Lib.hid (fun q hq => (Own.lt ho.row q hq).2)
  clear hb ho hm hN
  by_cases hE : EA = 0
  case neg =>
    have hne : (EA != 0) = true := by simp [hE]
    go_wp2
    go_ret2
    exact mrg_bad1 hEA.out hE HB1.out
  case pos =>
    subst hE
    go_wp2_with fail
    refine (rd_form (refReadAll_calls vb B _ (HB.out.below HB1.out) (by omega)) LB hLB.out EB hEB.out 400000 hbl).mono ?_
    rintro e w2 ⟨a2, m2, c2, ms, rfl, ho, hm, hN, hm2, hb⟩
    have HB2 := Lib.hid (HB1.out.trans (hb.mono HB1.out.size))
    have HO1 := Lib.hid (HO1.out.below hb)
    have HO2 := Lib.hid ho
    have HM2 := Lib.hid hm
    have HN2 := Lib.hid hN
    clear hb ho hm hN
    by_cases hE : EB = 0
    case neg =>
      have hne : (EB != 0) = true := by simp [hE]
      go_wp2
      go_ret2
      exact mrg_bad2 hEA.out hEB.out hE HB2.out
    case pos =>
      subst hE
      have hm1n : m1 = xs.length := by
        obtain ⟨_, _, e, _⟩ := Own.shape HO1.out.row
        simp only [Value.slice.injEq] at e
        exact e.2.1
      have hm2n : m2 = ms.length := by
        obtain ⟨_, _, e, _⟩ := Own.shape HO2.out.row
        simp only [Value.slice.injEq] at e
        exact e.2.1
      have HM1N := Lib.hid hm1n
      have HM2N := Lib.hid hm2n
      clear hm1n hm2n
      have HM2L : Hid (m2 = LB.length) := Lib.hid (by rw [← HM2.out, List.length_map]; exact HM2N.out)
      have HRL0 : Hid (Own w2 w.heap.size 39 2 (.slice a1 m1 c1) xs.length (lisC xs)) := Lib.hid HO1.out.row
      have HRM0 : Hid (Own w2 w.heap.size 39 2 (.slice a2 m2 c2) ms.length (lisC ms)) := Lib.hid (HO2.out.row.mono HB1.out.size)
      have HNE0 : Hid (∀ q, ownB (.slice a1 m1 c1) = some q → ownB (.slice a2 m2 c2) ≠ some q) := Lib.hid (fun q hq e => by
        have h1 := HL1.out q hq
        have h2 := (Own.lt HO2.out.row q e).1
        omega)
      have HSA0 : Hid (OwnSet w2 w.heap.size xs) := Lib.hid HO1.out.set
      have HSM0 : Hid (OwnSet w2 w.heap.size ms) := Lib.hid (HO2.out.set.mono HB1.out.size)
      have HMAP0 : Hid (xs.map LiV.li = mrgA LA LB 0) := Lib.hid (by rw [mrgA_zero]; exact HM1.out)
      go_wp2
      go_loopw [9, 6] (fun i_ l_ wr => ∃ (j : Nat) (la : Option Addr) (ln lc : Nat) (ys : List LiV), j ≤ m2 ∧ i_ = .int .i64 j ∧ l_ = .slice la ln lc ∧ Hid (ys.map LiV.li = mrgA LA LB j) ∧ Hid (Own wr w.heap.size 39 2 (.slice la ln lc) ys.length (lisC ys)) ∧ Hid (Own wr w.heap.size 39 2 (.slice a2 m2 c2) ms.length (lisC ms)) ∧ Hid (∀ q, ownB (.slice la ln lc) = some q → ownB (.slice a2 m2 c2) ≠ some q) ∧ Hid (OwnSet wr w.heap.size ys) ∧ Hid (OwnSet wr w.heap.size ms) ∧ Hid (Below w.heap.size w wr)) (fun i_ _ _ => m2 - (intOf i_).toNat)
      case atStart => exact ⟨0, a1, m1, c1, xs, Nat.zero_le _, rfl, rfl, HMAP0, HRL0, HRM0, HNE0, HSA0, HSM0, HB2⟩
      case round =>
        clear HRL0 HRM0 HNE0 HSA0 HSM0 HMAP0
        obtain ⟨j, la, ln, lc, ys, hj2, rfl, rfl, HMAP, HRL, HRM, HNE, HSA, HSM, HBW⟩ := hrel
        obtain ⟨wq, hwq⟩ : ∃ wq : World, wq = wr := ⟨_, rfl⟩
        subst hwq
        have HJL : Hid (j ≤ LB.length) := Lib.hid (by rw [← HM2L.out]; exact hj2)
        have HBND : Hid (∀ x ∈ ys, x.i.length ≤ 400000) := Lib.hid (fun x hx => by
          have h := mrgA_bound 400000 LA LB (fun x hx => by rw [← HM1.out] at hx; obtain ⟨z, hz, rfl⟩ := List.mem_map.1 hx; have := HN1.out.2 z hz; simpa [LiV.li] using this) (fun x hx => by rw [← HM2.out] at hx; obtain ⟨z, hz, rfl⟩ := List.mem_map.1 hx; have := HN2.out.2 z hz; simpa [LiV.li] using this) j HJL.out x.li (by rw [← HMAP.out]; exact List.mem_map.2 ⟨x, hx, rfl⟩)
          simpa [LiV.li] using h)
        have HLEN : Hid (ys.length ≤ 1000000) := Lib.hid (by
          have h := mrgA_len LA LB j HJL.out
          rw [← HMAP.out, List.length_map, ← HM1.out, List.length_map, ← HM1N.out] at h
          omega)
        have HLIS := Lib.hid (HSA.out.lis HRL.out)
        by_cases hlt2 : j < m2
        · have hdl2 : decide ((j : Int) < (m2 : Int)) = true := by simp; omega
          obtain ⟨x, hx⟩ : ∃ x, ms[j]? = some x := ⟨_, List.getElem?_eq_getElem (by rw [← HM2N.out]; exact hlt2)⟩
          obtain ⟨hmx, b, off, ha2, hrow⟩ := own_row_at HRM.out hx
          clear hmx
          subst ha2
          have HX := Lib.hid hx
          have hits := HSM.out.its x (List.mem_of_getElem? hx)
          obtain ⟨ia, ic, hxv, _, _⟩ := Own.shape hits.row
          obtain ⟨ni, hni⟩ : ∃ m, Hid (m = x.i.length) := ⟨_, Lib.hid rfl⟩
          obtain ⟨k, hk⟩ : ∃ k, Hid (k = x.k) := ⟨_, Lib.hid rfl⟩
          rw [← hni.out] at hxv
          have HITS := Lib.hid hits
          rw [hxv] at hrow HITS
          rw [← hk.out] at hrow
          have HRNG := Lib.hid hrow
          have hni4 : ni ≤ 400000 := by rw [hni.out]; exact HN2.out.2 x (List.mem_of_getElem? hx)
          have HXI := Lib.hid hni4
          have HXK : Hid (0 ≤ k ∧ k ≤ 255) := Lib.hid (by rw [hk.out]; exact HO2.out.kind x (List.mem_of_getElem? hx))
          clear hrow hx hxv hits
          obtain ⟨n5, hn5⟩ : ∃ m, Hid (m = wq.heap.size) := ⟨_, Lib.hid rfl⟩
          have HR0 := Lib.hid (RowAt.new wq #[.int .u8 k, .slice none 0 0] 39 n5 hn5.out)
          have HBA := Lib.hid ((Below.refl wq.heap.size wq).alloc (Nat.le_refl _) (.cells #[.int .u8 k, .slice none 0 0] 39))
          have q0 : wq.cell? ⟨b, off + j * 2, none⟩ = some (.int .u8 k) := HRNG.out 0 _ rfl
          go_wp2_with ((with_reducible show wpList _ _ _ (⟨none, _, _, _, _, _⟩ :: _) _ _); refine wpList_store_list rfl _ _ rfl wq #[.int .u8 0, .slice none 0 0] #[.int .u8 k, .slice none 0 0] rfl rfl (fun u hu => by simp at hu; rcases hu with rfl | rfl <;> rfl) rfl rfl ?_; rw [← hn5.out])
          clear q0
          go_loopw [11] (fun i_ wr => ∃ (i : Nat) (na : Option Addr) (nn nc : Nat) (zs : List ItV), i ≤ ni ∧ i_ = .int .i64 i ∧ Hid (nn = zs.length) ∧ Hid (zs.map ItV.it = keepI k (mrgK LA LB j) ((x.i.take i).map ItV.it)) ∧ Hid (∀ z ∈ zs, z ∈ x.i) ∧ Hid (RowAt wr n5 #[.int .u8 k, .slice na nn nc]) ∧ Hid (Own wr (n5 + 1) 49 17 (.slice na nn nc) zs.length (itsC zs)) ∧ Hid (Below wq.heap.size wq wr)) (fun i_ _ => ni - (intOf i_).toNat)
          case atStart => exact ⟨0, none, 0, 0, [], Nat.zero_le _, rfl, Lib.hid rfl, Lib.hid rfl, Lib.hid (fun z hz => by simp at hz), HR0, Lib.hid (Own.empty _ _ _ _ _), HBA⟩
          case round =>
            clear HR0 HBA
            obtain ⟨i, na, nn, nc, zs, hi, rfl, HNN, HZK, HZS, HRi, HOi, HBi⟩ := hrel
            obtain ⟨wi, hwi⟩ : ∃ wi : World, wi = wr := ⟨_, rfl⟩
            subst hwi
            have HRG := Lib.hid (range_below HRNG.out HBi.out)
            have HZN : Hid (zs.length ≤ 400000) := Lib.hid (by
              have h := congrArg List.length HZK.out
              have h2 := keepI_len k ((x.i.take i).map ItV.it) (mrgK LA LB j)
              rw [List.length_map, List.length_take] at h2
              rw [List.length_map] at h
              have := HXI.out
              have := hni.out
              omega)
            have HIX := Lib.hid (HITS.out.below HBi.out)
            have HZI : Hid (∀ W, Below wi.heap.size wi W → OwnIts W w.heap.size (.slice na nn nc) zs) := Lib.hid (fun W hW => ⟨(HOi.out.mono (by have := HBW.out.size; have := hn5.out; omega)).below hW (Nat.le_refl _), fun z hz => HIX.out.len z (HZS.out z hz), fun z hz => OwnB.below (HIX.out.byt z (HZS.out z hz)) hW⟩)
            have q1 : wi.cell? ⟨b, off + j * 2 + 1, none⟩ = some (.slice ia ni ic) := HRG.out 1 _ rfl
            by_cases hlt3 : i < ni
            · obtain ⟨ib, io, y, s, m, c, hy, hia, hry, hyv, hym, hymc, hyc, hyb, hyl, hyC, hy1⟩ := HIX.out.its.item i (by rw [← hni.out]; exact hlt3)
              cases hia
              have hdl3 : decide ((i : Int) < (ni : Int)) = true := by simp; omega
              have HYE := Lib.hid hy
              have HYL := Lib.hid hyl
              have HRY := Lib.hid hry
              have HYC := Lib.hid hyC
              have HY1 := Lib.hid hy1
              have HYB := Lib.hid hyb
              obtain ⟨X, hX⟩ : ∃ X, Hid (X = itC y) := ⟨_, Lib.hid rfl⟩
              obtain ⟨n6, hn6⟩ : ∃ m, Hid (m = wi.heap.size) := ⟨_, Lib.hid rfl⟩
              have HBB := Lib.hid ((Below.refl wi.heap.size wi).alloc (Nat.le_refl _) (.cells X.toArray 49))
              have HXR := Lib.hid (RowAt.new wi X.toArray 49 n6 hn6.out)
              have HXRG : Hid ((wi.alloc (.cells X.toArray 49)).rangeAt n6 0 X) := Lib.hid (by have := HXR.out.range; simpa using this)
              have HBQ := Lib.hid (HBi.out.trans (HBB.out.mono HBi.out.size))
              have HS1 := Lib.hid (stands_calls (.slice la ln lc) ys k y (wi.alloc (.cells X.toArray 49)) (HLIS.out.below HBQ.out) (HYB.out.below HBB.out) HYL.out (by have := HLEN.out; omega) (fun x hx => by have := HBND.out x hx; omega))
              rw [← hX.out] at HRY HYC HY1 HS1
              clear hry hyv hym hyb hyl hyC hy1 hy
              have HRA := Lib.hid (HRi.out.alloc (.cells X.toArray 49))
              have p0 := HRA.out.cell 0 (.int .u8 k) rfl
              go_wp2_with (first
                | (with_reducible show wpList _ _ _ (⟨some 59, _, _, _, _, _⟩ :: _) _ _; refine wpList_load_mid rfl 49 _ rfl ib (io + i * 17) rfl X _ HRY.out Try.underlying49 rfl (by rw [HYC.out]; kernel_rfl) ?_)
                | (with_reducible show wpList _ _ _ (⟨none, _, _, _, _, _⟩ :: _) _ _; refine wpList_store_item rfl _ _ rfl wi _ X rfl HYC.out HY1.out rfl rfl ?_; rw [← hn6.out])
                | (with_reducible show wpList _ _ _ (⟨some 63, _, _, _, _, _⟩ :: _) _ _; refine wpList_load_mid rfl 49 _ rfl n6 0 rfl X _ HXRG.out Try.underlying49 rfl (by rw [HYC.out]; kernel_rfl) ?_))
              refine HS1.out.mono ?_
              rintro e w5 ⟨B1, hB1, rfl, hb5⟩
              have HB5 := Lib.hid hb5
              have HR5 := Lib.hid (HRA.out.below hb5)
              have HB05 := Lib.hid (HBB.out.trans (hb5.mono HBB.out.size))
              have HQ5 := Lib.hid (HBi.out.trans (HB05.out.mono HBi.out.size))
              have HO5 := Lib.hid (HOi.out.below HB05.out (Nat.le_refl _))
              have HX5 : Hid (w5.rangeAt n6 0 X) := Lib.hid (range_below HXRG.out hb5)
              have HB1' := Lib.hid hB1
              clear hb5 hB1 HS1 p0 q1
              cases B1 with
              | true =>
                have HK5 : Hid (zs.map ItV.it = keepI k (mrgK LA LB j) ((x.i.take (i + 1)).map ItV.it)) := Lib.hid (by
                  rw [take_it HYE.out, ref_old HJL.out (by rw [← HMAP.out]; exact HB1'.out.1 rfl)]
                  exact HZK.out)
                go_wp2
                go_roundw
                case rel => exact ⟨i + 1, na, nn, nc, zs, hlt3, by go_num, HNN, HK5, HZS, HR5, HO5, HQ5⟩
                case measure => simp [intOf]; omega
              | false =>
                have HN1' : Hid (¬ inL (mrgA LA LB j) (k, y.it)) := Lib.hid (fun h => absurd (HB1'.out.2 (by rw [HMAP.out]; exact h)) (by decide))
                have HRR5 : Hid (w5.rangeAt n5 0 [.int .u8 k, .slice na nn nc]) := Lib.hid HR5.out.range
                obtain ⟨n7, hn7⟩ : ∃ m, Hid (m = w5.heap.size) := ⟨_, Lib.hid rfl⟩
                have HBC := Lib.hid ((Below.refl w5.heap.size w5).alloc (Nat.le_refl _) (.cells #[.int .u8 k, .slice na nn nc] 39))
                have HB06 := Lib.hid (HB05.out.trans (HBC.out.mono HB05.out.size))
                have HR6 := Lib.hid (HR5.out.below HBC.out)
                have HX6 := Lib.hid (range_below HX5.out HBC.out)
                have HLZ : Hid (Lis (w5.alloc (.cells #[.int .u8 k, .slice na nn nc] 39)) (.slice (some ⟨w5.heap.size, 0, none⟩) 1 1) [⟨k, zs, .slice na nn nc⟩]) := Lib.hid ⟨rd_one (w := w5) (X := [.int .u8 k, .slice na nn nc]) (t := 39), fun u hu => by rw [List.mem_singleton.1 hu]; exact HXK.out, fun u hu => by rw [List.mem_singleton.1 hu]; exact (HZI.out _ HB06.out).its⟩
                have HS2 := Lib.hid (stands_calls (.slice (some ⟨w5.heap.size, 0, none⟩) 1 1) [⟨k, zs, .slice na nn nc⟩] k y _ HLZ.out (HYB.out.below HB06.out) HYL.out (by simp) (fun u hu => by rw [List.mem_singleton.1 hu]; show zs.length ≤ 1000000000; have := HZN.out; omega))
                rw [← hX.out] at HS2
                have r0 := HR6.out.cell 0 (.int .u8 k) rfl
                go_wp2_with (first
                  | (with_reducible show wpList _ _ _ (⟨some 67, _, _, _, _, _⟩ :: _) _ _; refine wpList_load_midg rfl 39 _ rfl n5 0 rfl [.int .u8 k, .slice na nn nc] _ HRR5.out Try.underlying39 rfl (by kernel_rfl) ?_)
                  | (with_reducible show wpList _ _ _ (⟨some 71, _, _, _, _, _⟩ :: _) _ _; refine wpList_load_midg rfl 49 _ rfl n6 0 rfl X _ HX6.out Try.underlying49 rfl (by rw [HYC.out]; kernel_rfl) ?_))
                refine HS2.out.mono ?_
                rintro e w7 ⟨B2, hB2, rfl, hb7⟩
                have HR7 := Lib.hid (HR6.out.below hb7)
                have HB07 := Lib.hid (HB06.out.trans (hb7.mono HB06.out.size))
                have HQ7 := Lib.hid (HBi.out.trans (HB07.out.mono HBi.out.size))
                have HO7 := Lib.hid (HOi.out.below HB07.out (Nat.le_refl _))
                have HX7 : Hid (w7.rangeAt n6 0 X) := Lib.hid (range_below HX6.out hb7)
                have HB2' := Lib.hid hB2
                clear hb7 hB2 HS2 r0 HLZ
                have HLE : Hid ([(⟨k, zs, .slice na nn nc⟩ : LiV)].map LiV.li = [⟨k, keepI k (mrgK LA LB j) ((x.i.take i).map ItV.it)⟩]) := Lib.hid (by rw [← HZK.out]; rfl)
                cases B2 with
                | true =>
                  have HK7 : Hid (zs.map ItV.it = keepI k (mrgK LA LB j) ((x.i.take (i + 1)).map ItV.it)) := Lib.hid (by
                    rw [take_it HYE.out, ref_twice (by rw [← HLE.out]; exact HB2'.out.1 rfl)]
                    exact HZK.out)
                  go_wp2
                  go_roundw
                  case rel => exact ⟨i + 1, na, nn, nc, zs, hlt3, by go_num, HNN, HK7, HZS, HR7, HO7, HQ7⟩
                  case measure => simp [intOf]; omega
                | false =>
                  have HK7 : Hid ((zs ++ [y]).map ItV.it = keepI k (mrgK LA LB j) ((x.i.take (i + 1)).map ItV.it)) := Lib.hid (by
                    rw [take_it HYE.out, ref_new HJL.out HN1'.out (fun h => absurd (HB2'.out.2 (by rw [HLE.out]; exact h)) (by decide)), ← HZK.out, List.map_append]
                    rfl)
                  have HZS7 : Hid (∀ z ∈ zs ++ [y], z ∈ x.i) := Lib.hid (fun z hz => by
                    rcases List.mem_append.1 hz with hz | hz
                    · exact HZS.out z hz
                    · rw [List.mem_singleton.1 hz]; exact List.mem_of_getElem? HYE.out)
                  have s1 := HR7.out.cell 1 (.slice na nn nc) rfl
                  have HBD := Lib.hid ((Below.refl w7.heap.size w7).alloc (Nat.le_refl _) (.cells X.toArray 49))
                  have HO8 := Lib.hid (HO7.out.below HBD.out (Nat.le_refl _))
                  have HR8 := Lib.hid (HR7.out.below HBD.out)
                  have HQ8 := Lib.hid (HQ7.out.trans (HBD.out.mono HQ7.out.size))
                  have HRX : Hid (Rd (w7.alloc (.cells X.toArray 49)) 17 (.slice (some ⟨w7.heap.size, 0, none⟩) 1 1) 1 X) := Lib.hid (rd_item HYC.out)
                  have HS78 : Hid (n5 + 1 ≤ (w7.alloc (.cells X.toArray 49)).heap.size) := Lib.hid (by have := HR8.out.lt; omega)
                  go_wp2_with (first
                    | (with_reducible show wpList _ _ _ (⟨some 77, _, _, _, _, _⟩ :: _) _ _; refine wpList_load_mid rfl 49 _ rfl n6 0 rfl X _ HX7.out Try.underlying49 rfl (by rw [HYC.out]; kernel_rfl) ?_)
                    | (with_reducible show wpList _ _ _ (⟨some 78, _, _, _, _, _⟩ :: _) _ _; refine wpList_bslice_item rfl _ rfl X HYC.out rfl ?_)
                    | (at_builtin; refine wpList_append_item rfl _ _ rfl (n5 + 1) (.slice na nn nc) zs.length (itsC zs) rfl HO8.out (.slice (some ⟨w7.heap.size, 0, none⟩) 1 1) X rfl HRX.out HY1.out (by have := HZN.out; omega) HS78.out ?_; intro v9 w9 ho9 hg9 _; obtain ⟨x9, c9, rfl, _, _⟩ := Own.shape ho9; have HR9 := Lib.hid (HR8.out.grown hg9 (fun e => by have := (Own.lt HO8.out _ e).1; omega)); have HQ9 := Lib.hid (HQ8.out.grown hg9 HQ8.out.size (fun q hq => by have := (Own.lt HO8.out q hq).1; have := hn5.out; omega)); have HO9 := Lib.hid ho9; have t1 := HR9.out.cell 1 (.slice na nn nc) rfl; have tf := HR9.out.free; clear ho9 hg9))
                  clear t1 tf s1
                  go_roundw
                  case rel =>
                    refine ⟨i + 1, x9, zs.length + 1, c9, zs ++ [y], hlt3, by go_num, Lib.hid (by rw [List.length_append]; rfl), HK7, HZS7, Lib.hid (HR9.out.set (i := 1) (u := .slice x9 (zs.length + 1) c9) (by simp)), Lib.hid ?_, Lib.hid (HQ9.out.setCell (p := ⟨n5, 1, none⟩) (by show wq.heap.size ≤ n5; rw [hn5.out]; exact Nat.le_refl _) _)⟩
                    have h9 := HO9.out
                    rw [hX.out, ← itsC_snoc] at h9
                    rw [List.length_append]
                    exact h9.chg (L := [n5]) ((Chg.refl _ _).setCell (by simp) _) (fun q hq e => by rw [List.mem_singleton.1 hq] at e; have := (Own.lt h9 n5 e).1; omega)
                  case measure => simp [intOf]; omega
            · obtain rfl : ni = i := by omega
              have hdl3 : decide ((ni : Int) < (ni : Int)) = false := by simp
              have HKE : Hid (zs.map ItV.it = keepI x.li.k (mrgK LA LB j) x.li.i) := Lib.hid (by
                have h := HZK.out
                rw [List.take_of_length_le (l := x.i) (by rw [← hni.out]; exact Nat.le_refl _), hk.out] at h
                exact h)
              have HADD : Hid (mrgA LA LB (j + 1) = addL (mrgA LA LB j) (mrgK LA LB j) x.li) := Lib.hid (mrgA_step (show LB[j]? = some x.li by rw [← HM2.out]; exact li_at HX.out))
              have HRL5 := Lib.hid (HRL.out.below HBi.out (Nat.le_refl _))
              have HRM5 := Lib.hid (HRM.out.below HBi.out (Nat.le_refl _))
              have HSA5 := Lib.hid (HSA.out.below HBi.out)
              have HSM5 := Lib.hid (HSM.out.below HBi.out)
              have HBW5 := Lib.hid (HBW.out.trans (HBi.out.mono HBW.out.size))
              have s0 := HRi.out.cell 0 (.int .u8 k) rfl
              have s1 := HRi.out.cell 1 (.slice na nn nc) rfl
              by_cases hz : zs = []
              · obtain rfl : nn = 0 := by rw [HNN.out, hz]; rfl
                have hgt : decide ((0 : Int) < ((0 : Nat) : Int)) = false := by simp
                have HM7 : Hid (ys.map LiV.li = mrgA LA LB (j + 1)) := Lib.hid (by
                  rw [HADD.out, addL_nil (by rw [← HKE.out, hz]; rfl)]
                  exact HMAP.out)
                clear hz
                go_wp2
                go_roundw
                case rel => exact ⟨j + 1, la, ln, lc, ys, hlt2, by go_num, rfl, HM7, HRL5, HRM5, HNE, HSA5, HSM5, HBW5⟩
                case measure => simp [intOf]; omega
              · have hnn0 : 0 < nn := by rw [HNN.out]; exact List.length_pos_iff.2 hz
                have hgt : decide ((0 : Int) < (nn : Int)) = true := by simp; omega
                have HBE := Lib.hid ((Below.refl wi.heap.size wi).alloc (Nat.le_refl _) (.cells #[.int .u8 k, .slice na nn nc] 39))
                have HRL7 := Lib.hid (HRL5.out.alloc (.cells #[.int .u8 k, .slice na nn nc] 39))
                have HRM7 := Lib.hid (HRM5.out.alloc (.cells #[.int .u8 k, .slice na nn nc] 39))
                have HB7 := Lib.hid (HBW5.out.alloc HBW5.out.size (.cells #[.int .u8 k, .slice na nn nc] 39))
                have HSM7 := Lib.hid (HSM5.out.below HBE.out)
                have HSA7 : Hid (OwnSet (wi.alloc (.cells #[.int .u8 k, .slice na nn nc] 39)) w.heap.size (ys ++ [⟨k, zs, .slice na nn nc⟩])) := Lib.hid (OwnSet.snoc (b5 := n5) (HSA5.out.below HBE.out) HXK.out (HZI.out _ HBE.out)
                  (fun y hy q hq => by rw [hn5.out]; exact (Own.lt (HSA.out.its y hy).row q hq).2) (fun q hq => by have := (Own.lt HOi.out q hq).1; omega))
                have HRA : Hid (Rd (wi.alloc (.cells #[.int .u8 k, .slice na nn nc] 39)) 2 (.slice (some ⟨wi.heap.size, 0, none⟩) 1 1) 1 [.int .u8 k, .slice na nn nc]) := Lib.hid (rd_one (w := wi) (X := [.int .u8 k, .slice na nn nc]) (t := 39))
                have HM8 : Hid ((ys ++ [(⟨k, zs, .slice na nn nc⟩ : LiV)]).map LiV.li = mrgA LA LB (j + 1)) := Lib.hid (by
                  rw [HADD.out, addL_some (by rw [← HKE.out]; simpa using hz), List.map_append, HMAP.out, ← HKE.out]
                  have hkx : x.li.k = k := hk.out.symm
                  rw [hkx]
                  rfl)
                have HRR : Hid (wi.rangeAt n5 0 [.int .u8 k, .slice na nn nc]) := Lib.hid HRi.out.range
                clear hz
                go_wp2_with (first
                  | (with_reducible show wpList _ _ _ (⟨some 86, _, _, _, _, _⟩ :: _) _ _; refine wpList_load_mid rfl 39 _ rfl n5 0 rfl [.int .u8 k, .slice na nn nc] _ HRR.out Try.underlying39 rfl (by kernel_rfl) ?_)
                  | (at_builtin; refine wpList_append_list rfl _ _ rfl w.heap.size (.slice la ln lc) ys.length (lisC ys) rfl HRL7.out (.slice (some ⟨wi.heap.size, 0, none⟩) 1 1) [.int .u8 k, .slice na nn nc] rfl HRA.out (by intro u hu; simp only [List.mem_cons, List.not_mem_nil, or_false] at hu; rcases hu with hu | hu <;> (rw [hu]; rfl)) (by have := HLEN.out; omega) HB7.out.size ?_; intro v8 w8 ho8 hg8 hn8; obtain ⟨la8, lc8, rfl, _, _⟩ := Own.shape ho8)
                  | fail)
                have HRL8 : Hid (Own w8 w.heap.size 39 2 (.slice la8 (ys.length + 1) lc8) (ys ++ [(⟨k, zs, .slice na nn nc⟩ : LiV)]).length (lisC (ys ++ [(⟨k, zs, .slice na nn nc⟩ : LiV)]))) := Lib.hid (by
                  rw [lisC_snoc, List.length_append]
                  exact ho8)
                have HRM8 : Hid (Own w8 w.heap.size 39 2 (.slice (some ⟨b, off, none⟩) m2 c2) ms.length (lisC ms)) := Lib.hid (Own.kept HRM7.out hg8 (fun q hq e => HNE.out q e hq))
                have HNE8 : Hid (∀ q, ownB (.slice la8 (ys.length + 1) lc8) = some q → ownB (.slice (some ⟨b, off, none⟩) m2 c2) ≠ some q) := Lib.hid (fun q hq e => by
                  rcases hn8 with h | ⟨g, h, hge⟩
                  · rw [h] at hq
                    exact HNE.out q hq e
                  · rw [h] at hq
                    cases hq
                    have := (Own.lt HRM7.out _ e).2
                    omega)
                have HSA8 := Lib.hid (HSA7.out.grown HRL7.out hg8)
                have HSM8 := Lib.hid (HSM7.out.grown HRL7.out hg8)
                have HB8 : Hid (Below w.heap.size w w8) := Lib.hid (HB7.out.grown hg8 HB7.out.size (fun q hq => (Own.lt HRL7.out q hq).1))
                clear ho8 hg8 hn8
                go_wp2
                go_roundw
                case rel => exact ⟨j + 1, la8, ys.length + 1, lc8, ys ++ [⟨k, zs, .slice na nn nc⟩], hlt2, by go_num, rfl, HM8, HRL8, HRM8, HNE8, HSA8, HSM8, HB8⟩
                case measure => simp [intOf]; omega
        · obtain rfl : m2 = j := by omega
          have hdl2 : decide ((m2 : Int) < (m2 : Int)) = false := by simp
          have HQ : Hid (ys.map LiV.li = mrgQ A B) := Lib.hid (by rw [HMAP.out]; unfold mrgQ; rw [← hLA.out, ← hLB.out, ← HM2L.out])
          have HWB : Hid (wrB (mrgA LA LB m2) = true) := Lib.hid (wrB_mrg (by rw [hLA.out]; exact (resL_good A).1) (by rw [hLB.out]; exact (resL_good B).1) m2 HJL.out)
          have HWR := Lib.hid (refWriteL_calls (.slice la ln lc) ys wq HLIS.out HLEN.out (fun x hx => by have := HBND.out x hx; omega) (fun x hx y hy => Nat.le_trans (data_of HMAP.out HWB.out x hx y hy) (by omega)))
          go_wp2_with fail
          refine HWR.out.mono ?_
          rintro e w9 ⟨a9, n9, c9, rfl, ho9, hb9⟩
          have HO9 := Lib.hid ho9
          have HB9 := Lib.hid (HBW.out.trans (hb9.mono HBW.out.size))
          clear ho9 hb9 HWR
          obtain ⟨E9, hE9⟩ : ∃ E, Hid (E = wrE (ys.map LiV.li)) := ⟨_, Lib.hid rfl⟩
          rw [← hE9.out]
          have HE1 : Hid (mrgE A B = E9) := Lib.hid (by unfold mrgE; rw [if_pos hEA.out.symm, if_pos hEB.out.symm, ← HQ.out, hE9.out])
          have HE2 : Hid (mrgR A B = wrR (ys.map LiV.li)) := Lib.hid (by unfold mrgR; rw [if_pos ⟨hEA.out.symm, hEB.out.symm⟩, ← HQ.out])
          by_cases hE : E9 = 0
          case neg =>
            have HTEN : Hid (E9 = 10 ∧ wrR (ys.map LiV.li) = []) := Lib.hid (by
              have h := wrE_ten (L := ys.map LiV.li) (by rw [HMAP.out]; exact HWB.out) (by rw [← hE9.out]; exact hE)
              rw [← hE9.out] at h
              exact h)
            have hne : (E9 != 0) = true := by simp [hE]
            clear hE
            go_wp2
            go_ret2
            refine ⟨none, 0, 0, by rw [HE1.out, HTEN.out.1]; rfl, ?_, HB9.out⟩
            rw [HE2.out, HTEN.out.2]
            exact OwnB.empty _ _ _
          case pos =>
            subst hE
            go_wp2
            go_ret2
            refine ⟨a9, n9, c9, by rw [HE1.out]; rfl, ?_, HB9.out⟩
            rw [HE2.out]
            exact HO9.out.mono HBW.out.size
end Go.Proofs.Ytilanncobbdlfaa
