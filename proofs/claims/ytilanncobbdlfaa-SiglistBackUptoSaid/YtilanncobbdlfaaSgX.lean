/-
  The law of Back: lists and bytes cut, a region that ends by an append and an assignment, the plain law, items and in, the walk.
-/
import Derived.Test.YtilanncobbdlfaaSg23
import Derived.Test.YtilanncobbdlfaaSg24
import Derived.Test.YtilanncobbdlfaaRg3
import Derived.Test.YtilanncobbdlfaaSgN

/-
  Small laws of the walk of Cuts: lists and bytes cut, a row of numbers, which of the ends it is.
-/
namespace Go.Proofs.Ytilanncobbdlfaa
open Go Go.RowKit
set_option linter.unusedVariables false

theorem lisC_app (a b : List LiV) : lisC (a ++ b) = lisC a ++ lisC b := by unfold lisC; simp
theorem run_cutL (W : World) (s : Option Addr) (m c q : Nat) (hq : q ≤ m) (hm : m ≤ c) :
    (Instr.sliceAt 29 (.slice s m c) none (some (.int .i64 (q : Int))) none).run Try.prog W = .ok (.slice (s.map fun a => if c = 0 then a else a.add 0) q c) W := by
  obtain ⟨i, hi, hz0, hz1, hz2⟩ := info_parts infoL
  have b2 : (0 : Int) ≤ (q : Int) ∧ (q : Int) ≤ (c : Int) := by omega
  have b3 : q ≤ c := by omega
  cases s with
  | none => simp [Instr.sliceAt, Instr.slice, Instr.sliceBounds, Instr.sliceBound, run_underlying Try.underlying29, asIntOf, b2, b3, sizeOf, typeInfo, hi, hz1]
  | some a =>
    simp [Instr.sliceAt, Instr.slice, Instr.sliceBounds, Instr.sliceBound, run_underlying Try.underlying29, asIntOf, b2, b3, sizeOf, typeInfo, hi, hz1]
    split <;> rfl
/-- l[:q]. -/
theorem lis_cut {w : World} {s : Option Addr} {m c : Nat} {xs : List LiV} (h : Lis w (.slice s m c) xs) (q : Nat) (hq : q ≤ m) :
    ∃ y, (∀ W : World, (Instr.sliceAt 29 (.slice s m c) none (some (.int .i64 (q : Int))) none).run Try.prog W = .ok (.slice y q c) W) ∧ Lis w (.slice y q c) (xs.take q) := by
  obtain ⟨s', c', e, h0, h1, h2, hc⟩ := h.row
  simp only [Value.slice.injEq] at e
  obtain ⟨rfl, hm, rfl⟩ := e
  have hql : (xs.take q).length = q := by rw [List.length_take]; omega
  refine ⟨_, fun W => run_cutL W s m c q hq (by omega), ⟨?_, fun x hx => h.kind x (List.mem_of_mem_take hx), fun x hx => h.its x (List.mem_of_mem_take hx)⟩⟩
  rw [hql]
  refine ⟨_, _, rfl, by rw [lisC_length, hql], by omega, h2, fun j u hj => ?_⟩
  have hj2 : (lisC xs)[j]? = some u := by
    rw [← List.take_append_drop q xs, lisC_app, List.getElem?_append_left (List.getElem?_eq_some_iff.1 hj).1]
    exact hj
  obtain ⟨b, off, e, hcell⟩ := hc j u hj2
  subst e
  refine ⟨b, off, ?_, hcell⟩
  simp only [Option.map_some, add0, Nat.add_zero]
  split <;> rfl
/-- b[:q]. -/
theorem byt_cutn {w : World} {s : Option Addr} {m c : Nat} {d : List UInt8} (h : Byt w (.slice s m c) d) (hm : m = d.length) (q : Nat) (hq : q ≤ m) :
    ∃ y, (∀ W : World, (Instr.sliceAt 22 (.slice s m c) none (some (.int .i64 (q : Int))) none).run Try.prog W = .ok (.slice y q c) W) ∧ Byt w (.slice y q c) (d.take q) := by
  subst hm
  obtain ⟨s', c', e, h1, h2, hc⟩ := h.open
  simp only [Value.slice.injEq] at e
  obtain ⟨rfl, _, rfl⟩ := e
  refine ⟨_, fun W => run_cut W s d.length c q (by omega) h1, ?_⟩
  have hs : s.map (fun a => if c = 0 then a else a.add 0) = s ∨ d = [] := by
    cases hd : d with
    | nil => exact .inr rfl
    | cons x l =>
      left
      obtain ⟨b, off, e, _⟩ := hc 0 (by rw [hd]; simp)
      subst e
      simp only [Option.map_some, add0, Nat.add_zero]
      split <;> rfl
  rcases hs with e | e
  · rw [e]
    exact h.take q (by omega)
  · subst e
    have e0 : q = 0 := by simpa using hq
    subst e0
    exact Byt.of (by simp) (by omega) h2 (fun i hi => by simp at hi)

theorem infoN : (Try.prog.info? 3).map (fun i => (i.zero, i.size, i.bytes)) = some (some (.int .i64 0), 1, 8) := by kernel_rfl
section
variable {ops : Array Oper} {rest : List Oper} {o : Oper} {a : Act} {w : World} {Q : Exit → Act → World → Prop}
theorem wpList_append_int (hgd : o.guard = none) (s x : Operand) (ho : o.op = .call { callee := .builtin .append, args := #[s, x], argTypes := #[44, 44] })
    (base : Nat) (v : Value) (n : Nat) (xs : List Value) (hs : a.eval s = v) (hown : Own w base 3 1 v n xs) (y : Value) (news : List Value) (hxe : a.eval x = y) (hx : Rd w 1 y 1 news) (h1 : ∀ u ∈ news, u.oneCell' = true)
    (hn : n ≤ 1000000000) (hbase : base ≤ w.heap.size)
    (h : ∀ v' w', Own w' base 3 1 v' (n + 1) (xs ++ news) → w.grownBy w' (ownB v) → (ownB v' = ownB v ∨ ∃ g, ownB v' = some g ∧ w.heap.size ≤ g) → wpList Try.prog ops Q rest (a.put o.dst v') w') : wpList Try.prog ops Q (o :: rest) a w :=
  wpList_append_rd w hgd s x 44 ho base 3 _ 1 8 Try.underlying44 infoN rfl (by decide) v n xs hs hown y 1 news hxe hx h1 (by unfold maxLen; omega) (by omega) hbase
    fun v' w' h2 h3 h4 _ => h v' w' h2 h3 h4
end
/-- The ends of the first j lists, as values. -/
def endsV (L : List Li) (j : Nat) : List Value := (List.range j).map fun r => .int .i64 ((lsW (L.take r)).length : Int)
theorem endsV_length (L : List Li) (j : Nat) : (endsV L j).length = j := by simp [endsV]
theorem endsV_snoc (L : List Li) (j : Nat) : endsV L (j + 1) = endsV L j ++ [.int .i64 ((lsW (L.take j)).length : Int)] := by simp [endsV, List.range_succ]
theorem endsV_at {L : List Li} {j r : Nat} (h : r < j) : (endsV L j)[r]? = some (.int .i64 ((lsW (L.take r)).length : Int)) := by
  unfold endsV
  rw [List.getElem?_map, List.getElem?_range h]
  rfl
theorem ends_cell {w : World} {base e g n cap : Nat} {xs : List Value} (h : Own w base e 1 (.slice (some ⟨g, 0, none⟩) n cap) n xs) {i : Nat} {u : Value} (hu : xs[i]? = some u) : w.cell? ⟨g, i, none⟩ = some u := by
  obtain ⟨a, c, e, _, _, _, hc⟩ := h.rd
  simp only [Value.slice.injEq] at e
  obtain ⟨rfl, _, _⟩ := e
  obtain ⟨b, off, e2, h2⟩ := hc i u hu
  cases e2
  rw [Nat.zero_add] at h2
  exact h2
/-- Which of the first j ends it is: z. -/
def WH (L : List Li) (k j : Nat) (z : Int) : Prop := (z = -1 ∧ ∀ r, r < j → (lsW (L.take r)).length ≠ k) ∨ (∃ r : Nat, r < j ∧ z = (r : Int) ∧ (lsW (L.take r)).length = k)
theorem WH.zero (L : List Li) (k : Nat) : WH L k 0 (-1) := .inl ⟨rfl, fun r hr => absurd hr (Nat.not_lt_zero _)⟩
theorem WH.hit {L : List Li} {k j : Nat} (h : (lsW (L.take j)).length = k) : WH L k (j + 1) (j : Int) := .inr ⟨j, by omega, rfl, h⟩
theorem WH.miss {L : List Li} {k j : Nat} {z : Int} (h : WH L k j z) (hn : (lsW (L.take j)).length ≠ k) : WH L k (j + 1) z := by
  rcases h with ⟨e, h⟩ | ⟨r, hr, e, h⟩
  · refine .inl ⟨e, fun r hr => ?_⟩
    by_cases e2 : r = j
    · subst e2; exact hn
    · exact h r (by omega)
  · exact .inr ⟨r, by omega, e, h⟩
/-- What Read says of a beginning. -/
theorem cut_reads {L : List Li} (h : wrB L = true) (ho : OwnO L) (hl : (lsW L).length ≤ 65536) {k : Nat} (hk : k ≤ (lsW L).length) {z : Int} (hz : WH L k (L.length + 1) z) :
    (z = -1 ∧ resE ((lsW L).take k) = 9) ∨ (∃ r : Nat, r ≤ L.length ∧ z = (r : Int) ∧ resE ((lsW L).take k) = 0 ∧ resL ((lsW L).take k) = L.take r) := by
  have hlen : ¬ 65536 < ((lsW L).take k).length := by rw [List.length_take]; omega
  rcases rd_prefix L k h ho (by omega) hk with ⟨i, hi, hki, hr⟩ | ⟨hne, hr⟩
  · right
    rcases hz with ⟨_, hz⟩ | ⟨r, hrl, e, hre⟩
    · exact absurd hki.symm (hz i (by omega))
    · have : r = i := by
        rcases Nat.lt_trichotomy r i with hlt | e | hlt
        · have := lsW_lt L r i h ho hlt hi; omega
        · exact e
        · have := lsW_lt L i r h ho hlt (by omega); omega
      subst this
      refine ⟨r, hi, e, ?_, ?_⟩
      · unfold resE; rw [if_neg hlen, hr]; rfl
      · unfold resL; rw [if_neg hlen, hr]; rfl
  · left
    rcases hz with ⟨e, _⟩ | ⟨r, hrl, e, hre⟩
    · refine ⟨e, ?_⟩
      unfold resE; rw [if_neg hlen, hr]; rfl
    · exact absurd hre (hne r (by omega))
/-- Other bytes are other lists, or none. -/
theorem turned_reads {L : List Li} {c : List UInt8} (hc : c ≠ lsW L) (he : resE c = 0) : decide (resL c = L) = false := by
  rw [decide_eq_false_iff_not]
  intro e
  unfold resE at he
  unfold resL at e
  split at he
  · cases he
  · rename_i hlen
    rw [if_neg hlen] at e
    cases h : rdLs c with
    | none => rw [h] at he; cases he
    | some M =>
      rw [h] at e
      have e2 : M = L := e
      subst e2
      exact hc (wr_rd h).1.symm
theorem wrE_zero {L : List Li} (h : wrE L = 0) : wrB L = true ∧ (lsW L).length ≤ 65536 ∧ wrR L = lsW L := by
  unfold wrE at h
  unfold wrR
  split at h
  · rename_i hb
    split at h
    · rename_i hl
      exact ⟨hb, hl, by rw [if_pos hb, if_pos hl]⟩
    · cases h
  · cases h
theorem wrE_of {L : List Li} (h : wrB L = true) (hl : (lsW L).length ≤ 65536) : wrE L = 0 ∧ wrR L = lsW L := by
  unfold wrE wrR
  rw [if_pos h, if_pos hl, if_pos h, if_pos hl]
  exact ⟨rfl, rfl⟩
theorem OwnO.of {w : World} {v : Value} {xs : List LiV} {L : List Li} (h : Lis w v xs) (e : xs.map LiV.li = L) : OwnO L := by
  subst e
  intro x hx y hy
  obtain ⟨u, hu, rfl⟩ := List.mem_map.1 hx
  obtain ⟨z, hz, rfl⟩ := List.mem_map.1 (show y ∈ u.i.map ItV.it from hy)
  exact (h.its u hu).len z hz
end Go.Proofs.Ytilanncobbdlfaa

/-
  A region that draws its order and ends by an append and the assignment of what it answers: XRg's law for all that stands ahead of them, and two steps more. No condition; nothing of the program in sight.
-/
namespace Go.Proofs.Ytilanncobbdlfaa
open Go Go.RowKit
set_option linter.unusedVariables false

section
variable {P : Program} {ops : Array Oper} {Q : Exit → Act → World → Prop}

def endOk (ops : Array Oper) (z s : Nat) : Bool :=
  let pre := rgPre .any ops.toList []
  decide (z < ops.size) && decide (s < ops.size) && decide (z ≠ s) && (List.range ops.size).all (fun i => i == z || i == s || (pre.getD z 0).testBit i) && (pre.getD s 0).testBit z && !(pre.getD z 0).testBit s

/-- **THE LAW.** -/
theorem wp_region_end {id : Nat} {a : Act} {w : World} (hm : P.follows .mixedOrders = true) (G : World → World → Prop) (S : World → Prop) (R : Nat → Value → World → Prop) (T : Value → World → Prop) (z s n : Nat) (nss : List (List (Nat × Option Tmp))) (full : List (Nat × Option Tmp))
    (hn : a.tmps.size = n) (hok : rgOk .any ops n nss full = true) (hel : endOk ops z s = true) (hG1 : ∀ a, G a a) (hG2 : ∀ a b c, G a b → G b c → G a c) (hst : ∀ i v w w', G w w' → R i v w → R i v w')
    (hQ : ∀ ch (a a' : Act) w, a.defers = a'.defers → Q (.panic ch) a w → Q (.panic ch) a' w) (hS : ∀ w', G w.drew w' → S w')
    (hsteps : StepsT P ops Q G S R z s s a 0 ops.toList nss)
    (hz : ∀ o ns, ops[z]? = some o → nss[z]? = some ns → ∀ w, S w → AllV R w ns fun l => OpOk P ops Q (fun _ _ => True) (fun _ v w' => T v w') z o w (rgPut a l))
    (hs : ∀ o ns, ops[s]? = some o → nss[s]? = some ns → ∀ w v, T v w → ∀ vals : Nat → Value, vals z = v → OpOk P ops Q (fun w w' => w' = w) (fun _ v' _ => v' = v) s o w (rgPut a (ns.map fun p => (p.2, vals p.1))))
    (hend : ∀ w' v, T v w' → ∀ vals : Nat → Value, vals z = v → vals s = v → Q .normal (rgPut a (full.map fun p => (p.2, vals p.1))) w') : (Code.region id ops true).wp P Q a w := by
  simp only [rgOk, Bool.and_eq_true] at hok
  obtain ⟨⟨⟨⟨h1, h2⟩, h3⟩, h4⟩, h5⟩ := hok
  simp only [endOk, Bool.and_eq_true, decide_eq_true_eq, List.all_eq_true, List.mem_range, Bool.or_eq_true, beq_iff_eq, Bool.not_eq_true'] at hel
  obtain ⟨⟨⟨⟨⟨hzl, hsl⟩, hzs⟩, hall⟩, hsz⟩, hzs2⟩ := hel
  have hff : ∀ i, (Array.replicate ops.size false).getD i false = false := fun i => by
    by_cases hi : i < ops.size <;> simp [hi]
  let Inv : Array Bool → (Nat → Value) → Act → World → Prop := fun listed vals b w' => Mid0 .any ops a listed vals b ∧
    ((listed.getD z false = false ∧ listed.getD s false = false ∧ G w.drew w' ∧ ∀ i, listed.getD i false = true → R i (vals i) w') ∨
     (listed.getD z false = true ∧ listed.getD s false = false ∧ T (vals z) w') ∨
     (listed.getD s false = true ∧ T (vals z) w' ∧ vals s = vals z))
  have hin : ∀ {listed : Array Bool} {i : Nat}, listed.size = ops.size → i < ops.size → (listed.setIfInBounds i true).getD i false = true := fun hl hi => by simp [hl, hi]
  refine wp_region_any hm (mid_all0 (P := P) (md := .any) (ops := ops) (Q := Q) (a0 := a) (full := full) (pre := rgPre .any ops.toList []) (n := n) Inv hn h1 h3 h4 (fun _ _ _ _ h => h.1) ?_ ?_ ops.size _ (fun _ => undef) a _ (by
    have := List.countP_le_length (p := fun i => !(Array.replicate ops.size false).getD i false) (l := List.range ops.size)
    simpa using this) ?_)
  rotate_left 2
  · refine ⟨⟨by simp, rfl, rfl, fun i o hi => ?_, fun i d hi => ?_, fun d _ => rfl⟩, .inl ⟨hff z, hff s, hG1 _, fun i hi => ?_⟩⟩
    all_goals
      rw [hff i] at hi
      cases hi
  rotate_left
  · rintro listed vals b w' ⟨hm0, hph⟩ hal
    rcases hph with ⟨e, _⟩ | ⟨_, e, _⟩ | ⟨_, hc, hv⟩
    · rw [hal z hzl] at e; cases e
    · rw [hal s hsl] at e; cases e
    · exact hend w' _ hc vals rfl hv
  rintro listed vals b w' ⟨hm0, hph⟩ i hi
  obtain ⟨hil, hiu, hip⟩ := ready_pre h1 hm0 hi
  obtain ⟨o, ho⟩ : ∃ o, ops[i]? = some o := ⟨ops[i], by simp⟩
  obtain ⟨ns, hns, hst0⟩ := stepsT_at a ops.toList nss 0 hsteps i o (by simpa using ho)
  rw [Nat.zero_add] at hst0
  have hne : ∀ p ∈ ns, listed.getD p.1 false = true := fun p hp => by
    obtain ⟨q1, q2⟩ := need_pre h2 ho hns p hp
    exact hip p.1 q1 q2
  by_cases hiz : i = z
  · subst hiz
    -- the append
    have hsu : listed.getD s false = false := by
      cases e : listed.getD s false with
      | false => rfl
      | true =>
        have := listed_pre h1 hm0 hsl e i hil hsz
        rw [hiu] at this; cases this
    rcases hph with ⟨_, _, hg, hk⟩ | ⟨e, _⟩ | ⟨e, _⟩
    · have hok := allV_get w' vals ns _ (hz o ns ho hns w' (hS w' hg)) (fun p hp => hk p.1 (hne p hp))
      refine wpOp_mono ?_ (mid_step0 hn h1 h2 h3 h5 hQ hm0 i hi o ns ho hns hok)
      rintro b' w2 ⟨v, hv, _, hmm⟩
      exact ⟨_, hmm, .inr (.inl ⟨hin hm0.lsize hil, by rw [getD_set_ne false hzs]; exact hsu, by simpa using hv⟩)⟩
    · rw [hiu] at e; cases e
    · rw [hsu] at e; cases e
  by_cases his : i = s
  · subst his
    have hzt := hip z hzl hsz
    rcases hph with ⟨e, _⟩ | ⟨_, _, ht⟩ | ⟨e, _⟩
    · rw [hzt] at e; cases e
    · refine wpOp_mono ?_ (mid_step0 hn h1 h2 h3 h5 hQ hm0 i hi o ns ho hns (hs o ns ho hns w' (vals z) ht vals rfl))
      rintro b' w2 ⟨v, hv, hw, hmm⟩
      obtain rfl : w2 = w' := by rcases hw with hw | hw <;> exact hw
      refine ⟨_, hmm, .inr (.inr ⟨hin hm0.lsize hil, ?_, ?_⟩)⟩
      · show T (if z = i then v else vals z) w2
        rw [if_neg hzs]; exact ht
      · show (if i = i then v else vals i) = (if z = i then v else vals z)
        rw [if_pos rfl, if_neg hzs]; exact hv
    · rw [hiu] at e; cases e
  -- all else
  have hpz : ((rgPre .any ops.toList []).getD z 0).testBit i = true := (hall i hil).resolve_left (by
    rintro (e | e)
    · exact hiz e
    · exact his e)
  have hzu : listed.getD z false = false := by
    cases e2 : listed.getD z false with
    | false => rfl
    | true =>
      have h7 := listed_pre h1 hm0 hzl e2 i hil hpz
      rw [hiu] at h7; cases h7
  have hsu : listed.getD s false = false := by
    cases e2 : listed.getD s false with
    | false => rfl
    | true =>
      have h6 := listed_pre h1 hm0 hsl e2 z hzl hsz
      rw [hzu] at h6; cases h6
  rcases hph with ⟨_, _, hg, hk⟩ | ⟨e, _⟩ | ⟨e, _⟩
  · have hok := allV_get w' vals ns _ (hst0 hiz his his w' (hS w' hg)) (fun p hp => hk p.1 (hne p hp))
    refine wpOp_mono ?_ (mid_step0 hn h1 h2 h3 h5 hQ hm0 i hi o ns ho hns hok)
    rintro b' w2 ⟨v, hv, hw, hmm⟩
    refine ⟨_, hmm, .inl ⟨by rw [getD_set_ne false hiz]; exact hzu, by rw [getD_set_ne false his]; exact hsu, ?_, fun j hj => ?_⟩⟩
    · rcases hw with hw | rfl
      · exact hG2 _ _ _ hg hw
      · exact hg
    · by_cases e : j = i
      · subst e; simp only [if_true]; exact hv
      · rw [getD_set_ne false (fun e' => e e'.symm)] at hj
        simp only [e, if_false]
        rcases hw with hw | rfl
        · exact hst _ _ _ _ hw (hk j hj)
        · exact hk j hj
  · rw [hzu] at e; cases e
  · rw [hsu] at e; cases e
end
end Go.Proofs.Ytilanncobbdlfaa

/-
  The plain law of SiglistBack: the items of lists, what is merged, told item by item.
-/
namespace Go.Proofs.Ytilanncobbdlfaa
open Go Go.RowKit
set_option linter.unusedVariables false

/-- The items of lists, each with its kind. -/
def itP (L : List Li) : List (Int × It) := L.flatMap fun x => x.i.map fun y => (x.k, y)
def one1 (p : Int × It) : Li := ⟨p.1, [p.2]⟩
/-- All items of lists, each as a list of its own. -/
def itemsL (L : List Li) : List Li := (itP L).map one1
/-- How often a list stands among others. -/
def cntL (L : List Li) (x : Li) : Nat := (L.filter fun y => decide (y = x)).length

theorem one1_inj {p q : Int × It} (h : one1 p = one1 q) : p = q := by
  obtain ⟨k, y⟩ := p
  obtain ⟨k', y'⟩ := q
  unfold one1 at h
  simp only [Li.mk.injEq, List.cons.injEq, and_true] at h
  rw [h.1, h.2]
theorem mem_itP {L : List Li} {p : Int × It} : p ∈ itP L ↔ inL L p := by
  unfold itP inL
  rw [List.mem_flatMap]
  constructor
  · rintro ⟨x, hx, h⟩
    obtain ⟨y, hy, rfl⟩ := List.mem_map.1 h
    exact ⟨x, hx, rfl, hy⟩
  · rintro ⟨x, hx, h1, h2⟩
    exact ⟨x, hx, List.mem_map.2 ⟨p.2, h2, by rw [h1]⟩⟩
theorem itP_app (A B : List Li) : itP (A ++ B) = itP A ++ itP B := by unfold itP; rw [List.flatMap_append]
theorem itP_one (x : Li) : itP [x] = x.i.map fun y => (x.k, y) := by unfold itP; simp
theorem itemsL_app (A B : List Li) : itemsL (A ++ B) = itemsL A ++ itemsL B := by unfold itemsL; rw [itP_app, List.map_append]
theorem itemsL_length (L : List Li) : (itemsL L).length = (itP L).length := by unfold itemsL; rw [List.length_map]
/-- The items of the lists up to one, and of that list up to an item. -/
theorem itemsL_at {L : List Li} {j : Nat} {x : Li} (h : L[j]? = some x) : itemsL (L.take (j + 1)) = itemsL (L.take j) ++ x.i.map (fun y => ⟨x.k, [y]⟩) := by
  rw [take_at h, itemsL_app]
  unfold itemsL
  rw [itP_one, List.map_map]
  rfl
theorem itemsL_le {L : List Li} {j : Nat} {x : Li} (h : L[j]? = some x) : (itemsL (L.take j)).length + x.i.length ≤ (itemsL L).length := by
  have h1 := itemsL_at h
  have h2 : itemsL L = itemsL (L.take (j + 1)) ++ itemsL (L.drop (j + 1)) := by rw [← itemsL_app, List.take_append_drop]
  rw [h2, h1, List.length_append, List.length_append, List.length_map]
  omega
theorem itP_bound (n : Nat) : ∀ (L : List Li), (∀ x ∈ L, x.i.length ≤ n) → (itP L).length ≤ L.length * n
  | [], _ => by simp [itP]
  | x :: L, h => by
    have h1 := itP_bound n L (fun y hy => h y (List.mem_cons_of_mem _ hy))
    have h2 := h x List.mem_cons_self
    rw [show x :: L = [x] ++ L from rfl, itP_app, itP_one, List.length_append, List.length_map, List.length_append, Nat.add_mul]
    simp only [List.length_singleton, Nat.one_mul]
    omega

theorem cntL_nil (x : Li) : cntL [] x = 0 := rfl
theorem cntL_app (A B : List Li) (x : Li) : cntL (A ++ B) x = cntL A x + cntL B x := by unfold cntL; rw [List.filter_append, List.length_append]
theorem cntL_one (y x : Li) : cntL [y] x = if y = x then 1 else 0 := by
  unfold cntL
  by_cases h : y = x
  · rw [if_pos h]; simp [h]
  · rw [if_neg h]; simp [h]
theorem cntL_snoc {L : List Li} {j : Nat} {y : Li} (h : L[j]? = some y) (x : Li) : cntL (L.take (j + 1)) x = cntL (L.take j) x + (if y = x then 1 else 0) := by rw [take_at h, cntL_app, cntL_one]
theorem cntL_le (L : List Li) (x : Li) : cntL L x ≤ L.length := by unfold cntL; exact List.length_filter_le _ _
theorem cntL_pos {L : List Li} {x : Li} : 0 < cntL L x ↔ x ∈ L := by
  unfold cntL
  rw [List.length_pos_iff, ne_eq, List.filter_eq_nil_iff]
  constructor
  · intro h
    exact Classical.byContradiction (fun hx => h (fun y hy e => hx (by rw [← of_decide_eq_true e]; exact hy)))
  · intro h h2
    exact h2 x h (decide_eq_true rfl)
theorem cntL_nodup : ∀ {L : List Li} {x : Li}, L.Nodup → cntL L x ≤ 1
  | [], x, _ => by simp [cntL]
  | y :: L, x, h => by
    obtain ⟨h1, h2⟩ := List.nodup_cons.1 h
    rw [show y :: L = [y] ++ L from rfl, cntL_app, cntL_one]
    have ih := cntL_nodup (x := x) h2
    split
    · rename_i e
      subst e
      have : ¬ 0 < cntL L y := fun hc => h1 (cntL_pos.1 hc)
      omega
    · omega

/-- What is kept of a list was not met, and is kept once. -/
theorem keepI_new (k : Int) : ∀ (l : List It) (ks : List (Int × It)), (∀ y ∈ keepI k ks l, (k, y) ∉ ks) ∧ (keepI k ks l).Nodup
  | [], ks => ⟨fun y hy => by simp [keepI] at hy, List.nodup_nil⟩
  | x :: l, ks => by
    obtain ⟨h1, h2⟩ := keepI_new k l ((k, x) :: ks)
    have h3 : ∀ y ∈ keepI k ((k, x) :: ks) l, (k, y) ∉ ks ∧ y ≠ x := fun y hy => by
      have h := h1 y hy
      rw [List.mem_cons, not_or] at h
      exact ⟨h.2, fun e => h.1 (by rw [e])⟩
    simp only [keepI]
    split
    · exact ⟨fun y hy => (h3 y hy).1, h2⟩
    · rename_i hn
      refine ⟨fun y hy => ?_, List.nodup_cons.2 ⟨fun hx => (h3 x hx).2 rfl, h2⟩⟩
      rcases List.mem_cons.1 hy with rfl | hy
      · exact hn
      · exact (h3 y hy).1
theorem keepI_none {k : Int} : ∀ {l : List It} {ks : List (Int × It)}, (∀ y ∈ l, (k, y) ∈ ks) → keepI k ks l = []
  | [], ks, _ => rfl
  | x :: l, ks, h => by
    simp only [keepI]
    rw [if_pos (h x List.mem_cons_self)]
    exact keepI_none (fun y hy => List.mem_cons_of_mem _ (h y (List.mem_cons_of_mem _ hy)))

theorem itP_addL (l : List Li) (ks : List (Int × It)) (x : Li) : itP (addL l ks x) = itP l ++ (keepI x.k ks x.i).map (fun y => (x.k, y)) := by
  unfold addL
  split
  · rename_i e
    rw [e]
    simp
  · rw [itP_app, itP_one]
theorem addL_pre (l : List Li) (ks : List (Int × It)) (x : Li) : ∃ E, addL l ks x = l ++ E := by
  unfold addL
  split
  · exact ⟨[], (List.append_nil _).symm⟩
  · exact ⟨_, rfl⟩
/-- The merged lists: the first ones, and behind them what the second ones have beside, each once. -/
theorem mrg_items (L M : List Li) : ∀ j, j ≤ M.length → ∃ N, itP (mrgA L M j) = itP L ++ N ∧ N.Nodup ∧ (∀ p ∈ N, p ∉ itP L ∧ p ∈ itP (M.take j)) ∧ (∀ p ∈ itP (M.take j), p ∈ itP (mrgA L M j)) ∧ N.length ≤ (itP (M.take j)).length
  | 0, _ => ⟨[], by rw [mrgA_zero, List.append_nil], List.nodup_nil, fun p hp => by simp at hp, fun p hp => by simp [itP] at hp, by simp⟩
  | j + 1, hj => by
    obtain ⟨x, hx⟩ : ∃ x, M[j]? = some x := ⟨M[j], by simp⟩
    obtain ⟨N, h1, h2, h3, h4, h5⟩ := mrg_items L M j (by omega)
    have hK := inL_mrg L M j (by omega)
    obtain ⟨k1, k2⟩ := keepI_new x.k x.i (mrgK L M j)
    have hks := keepI_len x.k x.i (mrgK L M j)
    have hT : itP (M.take (j + 1)) = itP (M.take j) ++ x.i.map (fun y => (x.k, y)) := by rw [take_at hx, itP_app, itP_one]
    have hA : itP (mrgA L M (j + 1)) = itP L ++ (N ++ (keepI x.k (mrgK L M j) x.i).map (fun y => (x.k, y))) := by rw [mrgA_step hx, itP_addL, h1, List.append_assoc]
    refine ⟨N ++ (keepI x.k (mrgK L M j) x.i).map (fun y => (x.k, y)), hA, ?_, ?_, ?_, ?_⟩
    · refine List.nodup_append.2 ⟨h2, ?_, ?_⟩
      · exact List.pairwise_map.2 (k2.imp fun hne e => hne (Prod.mk.inj e).2)
      · intro p hp q hq e
        subst e
        obtain ⟨y, hy, rfl⟩ := List.mem_map.1 hq
        refine k1 y hy ((hK _).2 (mem_itP.1 ?_))
        rw [h1]
        exact List.mem_append_right _ hp
    · intro p hp
      rcases List.mem_append.1 hp with hp | hp
      · exact ⟨(h3 p hp).1, by rw [hT]; exact List.mem_append_left _ (h3 p hp).2⟩
      · obtain ⟨y, hy, rfl⟩ := List.mem_map.1 hp
        refine ⟨fun h => k1 y hy ((hK _).2 (mem_itP.1 ?_)), ?_⟩
        · rw [h1]
          exact List.mem_append_left _ h
        · rw [hT]
          exact List.mem_append_right _ (List.mem_map.2 ⟨y, keepI_sub _ _ _ _ hy, rfl⟩)
    · intro p hp
      rw [hT] at hp
      rw [mem_itP, ← inL_mrg L M (j + 1) hj, mrgK_step hx, mem_keysI]
      rcases List.mem_append.1 hp with hp | hp
      · exact .inl ((hK p).2 (mem_itP.1 (h4 p hp)))
      · obtain ⟨y, hy, rfl⟩ := List.mem_map.1 hp
        exact .inr ⟨rfl, hy⟩
    · rw [hT, List.length_append, List.length_append, List.length_map, List.length_map]
      omega
theorem mrg_pre (L M : List Li) : ∀ j, j ≤ M.length → ∃ E, mrgA L M j = L ++ E
  | 0, _ => ⟨[], by rw [mrgA_zero, List.append_nil]⟩
  | j + 1, hj => by
    obtain ⟨x, hx⟩ : ∃ x, M[j]? = some x := ⟨M[j], by simp⟩
    obtain ⟨E, h⟩ := mrg_pre L M j (by omega)
    obtain ⟨E2, h2⟩ := addL_pre (mrgA L M j) (mrgK L M j) x
    exact ⟨E ++ E2, by rw [mrgA_step hx, h2, h, List.append_assoc]⟩
/-- Merging in what is there turns nothing. -/
theorem mrg_self (L M : List Li) (h : ∀ p ∈ itP M, p ∈ itP L) : ∀ j, j ≤ M.length → mrgA L M j = L
  | 0, _ => mrgA_zero L M
  | j + 1, hj => by
    obtain ⟨x, hx⟩ : ∃ x, M[j]? = some x := ⟨M[j], by simp⟩
    have ih := mrg_self L M h j (by omega)
    rw [mrgA_step hx, addL_nil, ih]
    refine keepI_none (fun y hy => (inL_mrg L M j (by omega) _).2 ?_)
    rw [ih, ← mem_itP]
    exact h _ (mem_itP.2 ⟨x, List.mem_of_getElem? hx, rfl, hy⟩)

/-- How many bytes what is kept has. -/
theorem liW_keep {x : Li} (hr : riB x = true) (ho : ∀ y ∈ x.i, y.o.length = 16) (ks : List (Int × It)) (hne : keepI x.k ks x.i ≠ []) : (liW ⟨x.k, keepI x.k ks x.i⟩).length ≤ (liW x).length := by
  have h1 := riB_keep hr ks hne
  have h2 := (liW_len (x := ⟨x.k, keepI x.k ks x.i⟩) h1 (fun y hy => ho y (keepI_sub _ _ _ _ hy))).1
  have h3 := (liW_len hr ho).1
  have h4 : szL ⟨x.k, keepI x.k ks x.i⟩ = szL x := by
    cases e : keepI x.k ks x.i with
    | nil => exact absurd e hne
    | cons y0 r => exact ((ri_all hr).1 y0 (keepI_sub x.k x.i ks y0 (by rw [e]; exact List.mem_cons_self))).2
  have h5 := keepI_len x.k x.i ks
  rw [h2, h3, h4]
  have h6 := Nat.mul_le_mul_left (16 + szL x) h5
  show 28 + (16 + szL x) * (keepI x.k ks x.i).length ≤ 28 + (16 + szL x) * x.i.length
  omega
theorem lsW_mrg {L M : List Li} (hm : wrB M = true) (ho : OwnO M) : ∀ j, j ≤ M.length → (lsW (mrgA L M j)).length ≤ (lsW L).length + (lsW (M.take j)).length
  | 0, _ => by rw [mrgA_zero]; omega
  | j + 1, hj => by
    obtain ⟨x, hx⟩ : ∃ x, M[j]? = some x := ⟨M[j], by simp⟩
    have ih := lsW_mrg (L := L) hm ho j (by omega)
    have hr : riB x = true := by
      unfold wrB at hm
      exact List.all_eq_true.1 hm x (List.mem_of_getElem? hx)
    rw [mrgA_step hx, take_at hx, lsW_app, List.length_append]
    have e1 : lsW [x] = liW x := by rw [lsW_cons]; simp [lsW]
    rw [e1]
    unfold addL
    split
    · omega
    · rename_i hne
      rw [lsW_app, List.length_append]
      have e2 : lsW [⟨x.k, keepI x.k (mrgK L M j) x.i⟩] = liW ⟨x.k, keepI x.k (mrgK L M j) x.i⟩ := by rw [lsW_cons]; simp [lsW]
      rw [e2]
      have := liW_keep hr (ho x (List.mem_of_getElem? hx)) (mrgK L M j) hne
      omega
/-- What is read of what was written. -/
theorem read_back {L : List Li} (h : wrB L = true) (ho : OwnO L) (hl : (lsW L).length ≤ 65536) : resL (lsW L) = L ∧ resE (lsW L) = 0 := by
  have h1 := rd_wr0 L h ho (by omega)
  unfold resL resE
  rw [if_neg (by omega), if_neg (by omega), h1]
  exact ⟨rfl, rfl⟩
/-- What is written of what was read. -/
theorem write_back {b : List UInt8} (h : resE b = 0) : wrE (resL b) = 0 ∧ wrR (resL b) = b ∧ b.length ≤ 65536 := by
  have hb : b.length ≤ 65536 := by
    unfold resE at h
    split at h
    · cases h
    · omega
  unfold resE at h
  rw [if_neg (by omega)] at h
  unfold resL
  rw [if_neg (by omega)]
  cases hr : rdLs b with
  | none => rw [hr] at h; simp at h
  | some L =>
    obtain ⟨h1, h2, _⟩ := wr_rd hr
    obtain ⟨h3, h4⟩ := wrE_of h2 (by rw [h1]; exact hb)
    exact ⟨h3, by rw [Option.getD_some, h4, h1], hb⟩
/-- Two writings, merged. -/
theorem mrg_back {L M : List Li} (hl : wrB L = true) (hlo : OwnO L) (hm : wrB M = true) (hmo : OwnO M) (hn : (lsW L).length + (lsW M).length ≤ 65536) :
    mrgE (lsW L) (lsW M) = 0 ∧ mrgR (lsW L) (lsW M) = lsW (mrgA L M M.length) ∧ wrB (mrgA L M M.length) = true ∧ OwnO (mrgA L M M.length) ∧ (lsW (mrgA L M M.length)).length ≤ 65536 := by
  obtain ⟨a1, a2⟩ := read_back hl hlo (by omega)
  obtain ⟨b1, b2⟩ := read_back hm hmo (by omega)
  have h1 := wrB_mrg hl hm M.length (Nat.le_refl _)
  have h2 := OwnO_mrg hlo hmo M.length (Nat.le_refl _)
  have h3 := lsW_mrg (L := L) hm hmo M.length (Nat.le_refl _)
  rw [List.take_length] at h3
  have h4 : (lsW (mrgA L M M.length)).length ≤ 65536 := by omega
  obtain ⟨h5, h6⟩ := wrE_of h1 h4
  refine ⟨?_, ?_, h1, h2, h4⟩
  · unfold mrgE mrgQ
    rw [if_pos a2, if_pos b2, a1, b1]
    exact h5
  · unfold mrgR mrgQ
    rw [if_pos ⟨a2, b2⟩, a1, b1]
    exact h6
/-- A text is longer than nothing of what it begins with: the merged one begins with the first. -/
theorem mrg_head {L M : List Li} : (lsW L).length ≤ (lsW (mrgA L M M.length)).length ∧ (lsW (mrgA L M M.length)).take (lsW L).length = lsW L := by
  obtain ⟨E, h⟩ := mrg_pre L M M.length (Nat.le_refl _)
  rw [h, lsW_app, List.length_append]
  exact ⟨by omega, by rw [List.take_left]⟩
/-- **THE LAW**, item by item. -/
theorem back_items (L M : List Li) :
    (∀ u ∈ itemsL (mrgA L M M.length), cntL (itemsL L) u + cntL (itemsL M) u ≠ 0 ∧ cntL (itemsL (mrgA L M M.length)) u = max (cntL (itemsL L) u) 1) ∧
    (∀ u ∈ itemsL M, cntL (itemsL (mrgA L M M.length)) u ≠ 0) ∧ (itemsL (mrgA L M M.length)).length ≤ (itemsL L).length + (itemsL M).length := by
  obtain ⟨N, h1, h2, h3, h4, h5⟩ := mrg_items L M M.length (Nat.le_refl _)
  rw [List.take_length] at h3 h4 h5
  have hQ : itemsL (mrgA L M M.length) = itemsL L ++ N.map one1 := by unfold itemsL; rw [h1, List.map_append]
  have hN : (N.map one1).Nodup := List.pairwise_map.2 (h2.imp fun hne e => hne (one1_inj e))
  refine ⟨fun u hu => ?_, fun u hu => ?_, ?_⟩
  · rw [hQ] at hu ⊢
    rw [cntL_app]
    have hn := cntL_nodup (x := u) hN
    rcases List.mem_append.1 hu with hu | hu
    · have hp := cntL_pos.2 hu
      have h0 : ¬ 0 < cntL (N.map one1) u := fun hc => by
        obtain ⟨p, hpN, rfl⟩ := List.mem_map.1 (cntL_pos.1 hc)
        unfold itemsL at hu
        obtain ⟨q, hq, e⟩ := List.mem_map.1 hu
        rw [one1_inj e] at hq
        exact (h3 p hpN).1 hq
      omega
    · have hp := cntL_pos.2 hu
      have h0 : ¬ 0 < cntL (itemsL L) u := fun hc => by
        obtain ⟨p, hpN, rfl⟩ := List.mem_map.1 hu
        have hu2 := cntL_pos.1 hc
        unfold itemsL at hu2
        obtain ⟨q, hq, e⟩ := List.mem_map.1 hu2
        rw [one1_inj e] at hq
        exact (h3 p hpN).1 hq
      have h6 : 0 < cntL (itemsL M) u := by
        obtain ⟨p, hpN, rfl⟩ := List.mem_map.1 hu
        exact cntL_pos.2 (List.mem_map.2 ⟨p, (h3 p hpN).2, rfl⟩)
      omega
  · have : 0 < cntL (itemsL (mrgA L M M.length)) u := by
      unfold itemsL at hu
      obtain ⟨p, hpN, rfl⟩ := List.mem_map.1 hu
      exact cntL_pos.2 (List.mem_map.2 ⟨p, h4 p hpN, rfl⟩)
    omega
  · rw [hQ, List.length_append, List.length_map, itemsL_length M]
    omega
end Go.Proofs.Ytilanncobbdlfaa

/-
  The contracts of items and in.
-/
namespace Go.Proofs.Ytilanncobbdlfaa
open Go Go.RowKit
set_option linter.unusedVariables false

theorem run_slL (W : World) (b off m c i : Nat) (hi : i < m) (hm : m ≤ c) :
    (Instr.sliceAt 29 (.slice (some ⟨b, off, none⟩) m c) (some (.int .i64 (i : Int))) (some (.int .i64 ((i : Int) + 1))) none).run Try.prog W = .ok (.slice (some ⟨b, off + i * 2, none⟩) 1 (c - i)) W := by
  obtain ⟨j, hj, hz0, hz1, hz2⟩ := info_parts infoL
  have b1 : (0 : Int) ≤ (i : Int) := by omega
  have b3 : (i : Int) + 1 ≤ (c : Int) := by omega
  have b4 : (0 : Int) ≤ (i : Int) + 1 := by omega
  have b6 : i ≤ i + 1 := by omega
  have b7 : ((i : Int) + 1).toNat = i + 1 := by omega
  have b8 : ((i : Int)).toNat = i := by omega
  have b10 : i + 1 - i = 1 := by omega
  have e : (⟨b, off, none⟩ : Addr).add (i * 2) = ⟨b, off + i * 2, none⟩ := by rw [Addr.add_mid]
  simp [Instr.sliceAt, Instr.slice, Instr.sliceBounds, Instr.sliceBound, run_underlying Try.underlying29, asIntOf, b1, b3, b4, b6, b7, b8, b10, sizeOf, typeInfo, hj, hz1, e]
  intro h
  omega
theorem run_slI (W : World) (b off m c i : Nat) (hi : i < m) (hm : m ≤ c) :
    (Instr.sliceAt 37 (.slice (some ⟨b, off, none⟩) m c) (some (.int .i64 (i : Int))) (some (.int .i64 ((i : Int) + 1))) none).run Try.prog W = .ok (.slice (some ⟨b, off + i * 17, none⟩) 1 (c - i)) W := by
  obtain ⟨j, hj, hz0, hz1, hz2⟩ := info_parts infoI
  have b1 : (0 : Int) ≤ (i : Int) := by omega
  have b3 : (i : Int) + 1 ≤ (c : Int) := by omega
  have b4 : (0 : Int) ≤ (i : Int) + 1 := by omega
  have b6 : i ≤ i + 1 := by omega
  have b7 : ((i : Int) + 1).toNat = i + 1 := by omega
  have b8 : ((i : Int)).toNat = i := by omega
  have b10 : i + 1 - i = 1 := by omega
  have e : (⟨b, off, none⟩ : Addr).add (i * 17) = ⟨b, off + i * 17, none⟩ := by rw [Addr.add_mid]
  simp [Instr.sliceAt, Instr.slice, Instr.sliceBounds, Instr.sliceBound, run_underlying Try.underlying37, asIntOf, b1, b3, b4, b6, b7, b8, b10, sizeOf, typeInfo, hj, hz1, e]
  intro h
  omega
theorem rd_at1 {w : World} {b o c : Nat} {X : List Value} (h : w.rangeAt b o X) (hc : 1 ≤ c) (hm : c ≤ maxLen) : Rd w X.length (.slice (some ⟨b, o, none⟩) 1 c) 1 X :=
  ⟨_, _, rfl, by omega, hc, hm, fun j u hj => ⟨b, o, rfl, h j u hj⟩⟩
/-- l[i : i+1], of items. -/
theorem its_one {w : World} {b off n c i : Nat} {xs : List ItV} {y : ItV} (h : Its w (.slice (some ⟨b, off, none⟩) n c) xs) (hy : xs[i]? = some y) : Its w (.slice (some ⟨b, off + i * 17, none⟩) 1 (c - i)) [y] := by
  obtain ⟨b', off', e, hr⟩ := h.at hy
  cases e
  have hi := (List.getElem?_eq_some_iff.1 hy).1
  obtain ⟨a', c', e2, h0, h1, h2, _⟩ := h.row
  simp only [Value.slice.injEq] at e2
  obtain ⟨_, _, rfl⟩ := e2
  have hl := itC_length y (h.len y (List.mem_of_getElem? hy))
  have := rd_at1 hr (c := c - i) (by omega) (by omega)
  rw [hl] at this
  refine ⟨by simpa [itsC] using this, fun x hx => ?_, fun x hx => ?_⟩
  · rw [List.mem_singleton.1 hx]; exact h.len y (List.mem_of_getElem? hy)
  · rw [List.mem_singleton.1 hx]; exact h.byt y (List.mem_of_getElem? hy)
/-- l[i : i+1], of lists. -/
theorem lis_one {w : World} {b off n c i : Nat} {xs : List LiV} {x : LiV} (h : Lis w (.slice (some ⟨b, off, none⟩) n c) xs) (hx : xs[i]? = some x) : Lis w (.slice (some ⟨b, off + i * 2, none⟩) 1 (c - i)) [x] := by
  obtain ⟨b', off', e, h0, h1⟩ := h.at hx
  cases e
  have hi := (List.getElem?_eq_some_iff.1 hx).1
  obtain ⟨a', c', e2, _, h3, h2, _⟩ := h.row
  simp only [Value.slice.injEq] at e2
  obtain ⟨_, _, rfl⟩ := e2
  have := rd_at1 (range_two h0 h1) (c := c - i) (by omega) (by omega)
  refine ⟨by simpa [lisC, liC] using this, fun u hu => ?_, fun u hu => ?_⟩
  · rw [List.mem_singleton.1 hu]; exact h.kind x (List.mem_of_getElem? hx)
  · rw [List.mem_singleton.1 hu]; exact h.its x (List.mem_of_getElem? hx)
theorem op2_append_list {w : World} {o : Oper} {a : Act} {K : Act → World → Prop} {Q : Exit → Act → World → Prop} (s x : Operand)
    (ho : o.op = .call { callee := .builtin .append, args := #[s, x], argTypes := #[29, 29] })
    (base : Nat) (v : Value) (n : Nat) (xs : List Value) (hs : a.eval s = v) (hown : Own w base 39 2 v n xs) (y : Value) (news : List Value) (hxe : a.eval x = y) (hx : Rd w 2 y 1 news) (h1 : ∀ u ∈ news, u.oneCell' = true)
    (hn : (n + 1) * 32 ≤ 140737488355328) (hbase : base ≤ w.heap.size)
    (h : ∀ v' w', Own w' base 39 2 v' (n + 1) (xs ++ news) → w.grownBy w' (ownB v) → (ownB v' = ownB v ∨ ∃ g, ownB v' = some g ∧ w.heap.size ≤ g) → K (a.put o.dst v') w') : o.wp Try.prog a w K Q := by
  obtain ⟨i, hi, hz, hi2, hi3⟩ := info_parts infoL
  obtain ⟨v', w', hr, h2, h3, h4, _, h6⟩ := append_rd (P := Try.prog) w base 29 o.type 39 i _ 2 32 Try.underlying29 hi hz hi2 hi3 rfl (by decide) v n xs hown y 1 news hx h1 (by unfold maxLen; omega) hn hbase
  unfold Oper.wp execOp
  simp only [ho, resolve, invoke, builtin, Sem.run_bind, Sem.run_pure, Result.andThen_ok, List.map_toArray, List.map_cons, List.map_nil, hs, hxe, hr]
  exact h v' w' h2 h3 h4
/-- What the append of items answers. -/
def ItT (w : World) (n : Nat) (cs : List Value) (v : Value) (w' : World) : Prop := ∃ a c, v = .slice a (n + 1) c ∧ Own w' w.heap.size 39 2 v (n + 1) cs ∧ Below w.heap.size w w'

set_option maxRecDepth 100000 in
set_option maxHeartbeats 4000000 in
theorem items_calls (v : Value) (xs : List LiV) (w : World) (hv : Lis w v xs) (hn : xs.length ≤ 1000000000) (hi : (itemsL (xs.map LiV.li)).length ≤ 1000000000) :
    Calls Try.prog 19 #[v] w fun e w' => ∃ a n c ys, e = .returned (.slice a n c) ∧ Hid (ys.map LiV.li = itemsL (xs.map LiV.li)) ∧ Hid (Lis w' (.slice a n c) ys) ∧ Below w.heap.size w w' := by
  have HV := Lib.hid hv
  have HI := Lib.hid hi
  obtain ⟨a, cap, rfl, h1, h2⟩ := hv.open
  clear hv hi
  obtain ⟨N, hN⟩ : ∃ n, Hid (n = xs.length) := ⟨_, Lib.hid rfl⟩
  rw [← hN.out] at HV h1 hn ⊢
  obtain ⟨L, hL⟩ : ∃ L, Hid (xs.map LiV.li = L) := ⟨_, Lib.hid rfl⟩
  rw [hL.out] at HI ⊢
  go_enter Try.func19, Try.ntmps19
  go_wp2
  go_loopw [4, 3] (fun j_ o_ wr => ∃ (j : Nat) (ox : Option Addr) (on oc : Nat) (ys : List LiV), j ≤ N ∧ j_ = .int .i64 j ∧ o_ = .slice ox on oc ∧ Hid (on = ys.length) ∧ Hid (ys.map LiV.li = itemsL (L.take j)) ∧ Hid (∀ y ∈ ys, (0 ≤ y.k ∧ y.k ≤ 255) ∧ Its w y.v y.i) ∧ Hid (Own wr w.heap.size 39 2 (.slice ox on oc) ys.length (lisC ys)) ∧ Hid (Below w.heap.size w wr)) (fun j_ _ _ => N - (intOf j_).toNat)
  case atStart => exact ⟨0, none, 0, 0, [], Nat.zero_le _, rfl, rfl, Lib.hid rfl, Lib.hid rfl, Lib.hid (fun y hy => by simp at hy), Lib.hid (Own.empty _ _ _ _ _), Lib.hid (Below.refl _ _)⟩
  case round =>
    obtain ⟨j, ox, on, oc, ys, hj, rfl, rfl, HON, HYS, HYI, HO, HB⟩ := hrel
    obtain ⟨wo, hwo⟩ : ∃ wo : World, wo = wr := ⟨_, rfl⟩
    subst hwo
    by_cases hlt : j < N
    · obtain ⟨b, off, x, ia, n, ic, hx, ha, hrow, hxv, hm, hmc, hc, hits⟩ := HV.out.item j (by rw [← hN.out]; exact hlt)
      subst ha
      have hdl : decide ((j : Int) < (N : Int)) = true := by simp; omega
      have HX : Hid (L[j]? = some x.li) := Lib.hid (by rw [← hL.out]; exact li_at hx)
      have HKX := Lib.hid (HV.out.kind x (List.mem_of_getElem? hx))
      have HA1 : Hid (w.cell? ⟨b, off + j * 2, none⟩ = some (.int .u8 x.k)) := Lib.hid (hrow 0 _ rfl)
      have HA2 : Hid (w.cell? ⟨b, off + j * 2 + 1, none⟩ = some (.slice ia n ic)) := Lib.hid (hrow 1 _ rfl)
      have HITS := Lib.hid hits
      have HNI := Lib.hid hm
      have HNC := Lib.hid hmc
      have HTOT : Hid ((itemsL (L.take j)).length + n ≤ 1000000000) := Lib.hid (by
        have h := itemsL_le HX.out
        have h9 := HI.out
        have h8 : x.li.i.length = n := by rw [hm]; simp [LiV.li]
        omega)
      have HNB : Hid (n ≤ 1000000000) := Lib.hid (by have := HTOT.out; omega)
      have hnb := HNB.out
      obtain ⟨k, hk⟩ : ∃ k, Hid (k = x.k) := ⟨_, Lib.hid rfl⟩
      rw [← hk.out] at HA1 HKX
      clear hrow hx hxv hm hits
      go_wp2
      go_loopw [5, 3] (fun i_ o_ wr => ∃ (i : Nat) (ox : Option Addr) (on oc : Nat) (ys : List LiV), i ≤ n ∧ i_ = .int .i64 i ∧ o_ = .slice ox on oc ∧ Hid (on = ys.length) ∧ Hid (ys.map LiV.li = itemsL (L.take j) ++ (x.i.take i).map (fun z => ⟨k, [z.it]⟩)) ∧ Hid (∀ y ∈ ys, (0 ≤ y.k ∧ y.k ≤ 255) ∧ Its w y.v y.i) ∧ Hid (Own wr w.heap.size 39 2 (.slice ox on oc) ys.length (lisC ys)) ∧ Hid (Below w.heap.size w wr)) (fun i_ _ _ => n - (intOf i_).toNat)
      case atStart => exact ⟨0, ox, on, oc, ys, Nat.zero_le _, rfl, rfl, HON, Lib.hid (by rw [HYS.out]; simp), HYI, HO, HB⟩
      case round =>
        clear HON HYS HYI HO HB
        obtain ⟨i, ox, on, oc, ys, hi, rfl, rfl, HON, HYS, HYI, HOi, HBi⟩ := hrel
        obtain ⟨wi, hwi⟩ : ∃ wi : World, wi = wr := ⟨_, rfl⟩
        subst hwi
        have HX1 : Hid (wi.cell? ⟨b, off + j * 2, none⟩ = some (.int .u8 k)) := Lib.hid ((HBi.out.cell (p := ⟨b, off + j * 2, none⟩) (lt_of_cell HA1.out)).trans HA1.out)
        have HX2 : Hid (wi.cell? ⟨b, off + j * 2 + 1, none⟩ = some (.slice ia n ic)) := Lib.hid ((HBi.out.cell (p := ⟨b, off + j * 2 + 1, none⟩) (lt_of_cell HA2.out)).trans HA2.out)
        have q2 := HX2.out
        by_cases hlt3 : i < n
        · obtain ⟨ib, io, y, s, m, c, hy, hia, hry, hyv, hym, hymc, hyc, hyb, hyl, hyC, hy1⟩ := HITS.out.item i (by rw [← HNI.out]; exact hlt3)
          subst hia
          have hdl3 : decide ((i : Int) < (n : Int)) = true := by simp; omega
          have HYE := Lib.hid hy
          have HLT := Lib.hid hlt3
          have HI1 := Lib.hid (its_one HITS.out hy)
          have HOB : Hid (on ≤ 1000000000) := Lib.hid (by
            have h := congrArg List.length HYS.out
            rw [List.length_map, List.length_append, List.length_map, List.length_take] at h
            have := HON.out
            have := HTOT.out
            omega)
          clear hry hy hyv hyb hyl hyC hy1 hym
          go_wp2_with fail
          clear q2
          obtain ⟨RS, hRS⟩ : ∃ R : List (Value → World → Prop), R = [isV (.slice ox on oc), isV (.slice (some ⟨b, off, none⟩) N cap), isV (.int .i64 (j : Int)), isV (.pointer (some ⟨b, off + j * 2, none⟩)), isV (.pointer (some ⟨b, off + j * 2, none⟩)), isV (.int .u8 k), isV (.slice (some ⟨b, off, none⟩) N cap), isV (.int .i64 (j : Int)), isV (.pointer (some ⟨b, off + j * 2, none⟩)), isV (.pointer (some ⟨b, off + j * 2 + 1, none⟩)), isV (.slice (some ⟨ib, io, none⟩) n ic), isV (.int .i64 (i : Int)), isV (.int .i64 (i : Int)), isV (.int .i64 ((i : Int) + 1)), isV (.slice (some ⟨ib, io + i * 17, none⟩) 1 (ic - i)), isV (.agg #[.int .u8 k, (.slice (some ⟨ib, io + i * 17, none⟩) 1 (ic - i))]), fun v w' => ∃ bb, v = .slice (some ⟨bb, 0, none⟩) 1 1 ∧ Rd w' 2 v 1 [.int .u8 k, (.slice (some ⟨ib, io + i * 17, none⟩) 1 (ic - i))], fun _ _ => True, fun _ _ => True] := ⟨_, rfl⟩
          have HST : StableL Grows RS := by rw [hRS]; exact ⟨fun _ _ _ _ h => h, fun _ _ _ _ h => h, fun _ _ _ _ h => h, fun _ _ _ _ h => h, fun _ _ _ _ h => h, fun _ _ _ _ h => h, fun _ _ _ _ h => h, fun _ _ _ _ h => h, fun _ _ _ _ h => h, fun _ _ _ _ h => h, fun _ _ _ _ h => h, fun _ _ _ _ h => h, fun _ _ _ _ h => h, fun _ _ _ _ h => h, fun _ _ _ _ h => h, fun _ _ _ _ h => h, fun _ _ _ hg ⟨bb, e, h⟩ => ⟨bb, e, Rd.below h hg (Nat.le_refl _)⟩, fun _ _ _ _ h => h, fun _ _ _ _ h => h, trivial⟩
          refine' wp_region_end (by kernel_rfl) Grows (fun w' => Hid (Below wi.heap.size wi w')) (rdP RS) (ItT w on (lisC ys ++ [.int .u8 k, (.slice (some ⟨ib, io + i * 17, none⟩) 1 (ic - i))])) 17 18 41 [[], [], [], [(1, some 23), (2, some 24)], [(3, some 25)], [(4, some 26)], [], [], [(6, some 28), (7, some 29)], [(8, some 30)], [(9, some 31)], [], [], [(12, some 34)], [(10, some 32), (11, some 33), (13, some 35)], [(5, some 27), (14, some 36)], [(15, some 37)], [(0, some 22), (16, some 38)], [(17, some 39)]] [(0, some 22), (1, some 23), (2, some 24), (3, some 25), (4, some 26), (5, some 27), (6, some 28), (7, some 29), (8, some 30), (9, some 31), (10, some 32), (11, some 33), (12, some 34), (13, some 35), (14, some 36), (15, some 37), (16, some 38), (17, some 39), (18, some 3)] rfl (by kernel_rfl) (by kernel_rfl) Grows.refl Grows.trans HST.at (fun _ a a' _ e h => by cases a; cases a'; cases e; exact h) ?hS ?hsteps ?hz ?hs ?hend
          case hS => exact fun w' hg => Lib.hid ((Below.refl _ _).drew.trans hg)
          case hsteps =>
            rw [hRS]
            refine ⟨?_, ?_, ?_, ?_, ?_, ?_, ?_, ?_, ?_, ?_, ?_, ?_, ?_, ?_, ?_, ?_, ?_, ?_, ?_, trivial⟩
            · intro _ _ _
              intro w' hs
              simp only [AllV, rgPut]
              clear hs
              refine OpOk.run ?_ (fun K hK => ?_)
              · rfl
              go_simp
              refine hK.out _ _ (Grows.refl _) ?_
              exact rfl
            · intro _ _ _
              intro w' hs
              simp only [AllV, rgPut]
              clear hs
              refine OpOk.run ?_ (fun K hK => ?_)
              · rfl
              go_simp
              refine hK.out _ _ (Grows.refl _) ?_
              exact rfl
            · intro _ _ _
              intro w' hs
              simp only [AllV, rgPut]
              clear hs
              refine OpOk.run ?_ (fun K hK => ?_)
              · rfl
              go_simp
              refine hK.out _ _ (Grows.refl _) ?_
              exact rfl
            · intro _ _ _
              intro w' hs
              simp only [AllV, rdP, isV, forall_eq, rgPut, Act.put, List.setIfInBounds_toArray, List.set_cons_zero, List.set_cons_succ]
              clear hs
              refine OpOk.run ?_ (fun K hK => ?_)
              · rfl
              go_simp
              refine hK.out _ _ (Grows.refl _) ?_
              exact rfl
            · intro _ _ _
              intro w' hs
              simp only [AllV, rdP, isV, forall_eq, rgPut, Act.put, List.setIfInBounds_toArray, List.set_cons_zero, List.set_cons_succ]
              clear hs
              refine OpOk.run ?_ (fun K hK => ?_)
              · rfl
              go_simp
              refine hK.out _ _ (Grows.refl _) ?_
              exact rfl
            · intro _ _ _
              intro w' hs
              simp only [AllV, rdP, isV, forall_eq, rgPut, Act.put, List.setIfInBounds_toArray, List.set_cons_zero, List.set_cons_succ]
              have cc : ∀ (p : Addr) (u : Value), wi.cell? p = some u → w'.cell? p = some u := fun p u h => (Below.cell hs.out (lt_of_cell h)).trans h
              have f1 := cc _ _ HX1.out
              have f2 := cc _ _ HX2.out
              clear cc hs
              refine OpOk.run ?_ (fun K hK => ?_)
              · rfl
              go_simp
              refine hK.out _ _ (Grows.refl _) ?_
              exact rfl
            · intro _ _ _
              intro w' hs
              simp only [AllV, rgPut]
              clear hs
              refine OpOk.run ?_ (fun K hK => ?_)
              · rfl
              go_simp
              refine hK.out _ _ (Grows.refl _) ?_
              exact rfl
            · intro _ _ _
              intro w' hs
              simp only [AllV, rgPut]
              clear hs
              refine OpOk.run ?_ (fun K hK => ?_)
              · rfl
              go_simp
              refine hK.out _ _ (Grows.refl _) ?_
              exact rfl
            · intro _ _ _
              intro w' hs
              simp only [AllV, rdP, isV, forall_eq, rgPut, Act.put, List.setIfInBounds_toArray, List.set_cons_zero, List.set_cons_succ]
              clear hs
              refine OpOk.run ?_ (fun K hK => ?_)
              · rfl
              go_simp
              refine hK.out _ _ (Grows.refl _) ?_
              exact rfl
            · intro _ _ _
              intro w' hs
              simp only [AllV, rdP, isV, forall_eq, rgPut, Act.put, List.setIfInBounds_toArray, List.set_cons_zero, List.set_cons_succ]
              clear hs
              refine OpOk.run ?_ (fun K hK => ?_)
              · rfl
              go_simp
              refine hK.out _ _ (Grows.refl _) ?_
              exact rfl
            · intro _ _ _
              intro w' hs
              simp only [AllV, rdP, isV, forall_eq, rgPut, Act.put, List.setIfInBounds_toArray, List.set_cons_zero, List.set_cons_succ]
              have cc : ∀ (p : Addr) (u : Value), wi.cell? p = some u → w'.cell? p = some u := fun p u h => (Below.cell hs.out (lt_of_cell h)).trans h
              have f1 := cc _ _ HX1.out
              have f2 := cc _ _ HX2.out
              clear cc hs
              refine OpOk.run ?_ (fun K hK => ?_)
              · rfl
              go_simp
              refine hK.out _ _ (Grows.refl _) ?_
              exact rfl
            · intro _ _ _
              intro w' hs
              simp only [AllV, rgPut]
              clear hs
              refine OpOk.run ?_ (fun K hK => ?_)
              · rfl
              go_simp
              refine hK.out _ _ (Grows.refl _) ?_
              exact rfl
            · intro _ _ _
              intro w' hs
              simp only [AllV, rgPut]
              clear hs
              refine OpOk.run ?_ (fun K hK => ?_)
              · rfl
              go_simp
              refine hK.out _ _ (Grows.refl _) ?_
              exact rfl
            · intro _ _ _
              intro w' hs
              simp only [AllV, rdP, isV, forall_eq, rgPut, Act.put, List.setIfInBounds_toArray, List.set_cons_zero, List.set_cons_succ]
              have hwr : IntKind.i64.wrap ((i : Int) + 1) = (i : Int) + 1 := IntWalk.i64_in _ (by have := HLT.out; have := HNB.out; omega)
              clear hs
              refine OpOk.run ?_ (fun K hK => ?_)
              · rfl
              go_simp
              refine hK.out _ _ (Grows.refl _) ?_
              exact rfl
            · intro _ _ _
              intro w' hs
              simp only [AllV, rdP, isV, forall_eq, rgPut, Act.put, List.setIfInBounds_toArray, List.set_cons_zero, List.set_cons_succ]
              have hcut := run_slI w' ib io n ic i HLT.out HNC.out
              clear hs
              refine OpOk.run ?_ (fun K hK => ?_)
              · rfl
              go_simp
              refine hK.out _ _ (Grows.refl _) ?_
              exact rfl
            · intro _ _ _
              intro w' hs
              simp only [AllV, rdP, isV, forall_eq, rgPut, Act.put, List.setIfInBounds_toArray, List.set_cons_zero, List.set_cons_succ]
              clear hs
              refine OpOk.run ?_ (fun K hK => ?_)
              · rfl
              go_simp
              refine hK.out _ _ (Grows.refl _) ?_
              exact rfl
            · intro _ _ _
              intro w' hs
              simp only [AllV, rdP, isV, forall_eq, rgPut, Act.put, List.setIfInBounds_toArray, List.set_cons_zero, List.set_cons_succ]
              clear hs
              refine OpOk.run ?_ (fun K hK => ?_)
              · rfl
              go_simp
              refine hK.out _ _ ((Below.refl _ _).alloc (Nat.le_refl _) _) ?_
              exact ⟨w'.heap.size, rfl, rd_one (w := w') (X := [.int .u8 k, (.slice (some ⟨ib, io + i * 17, none⟩) 1 (ic - i))]) (t := 39)⟩
            · intro h1 h2 h3; exact absurd rfl h1
            · intro h1 h2 h3; exact absurd rfl h2
          case hz =>
            intro o ns ho' hns w' hs
            have e1 : some _ = some o := ho'
            have e2 : some _ = some ns := hns
            cases e1
            cases e2
            rw [hRS]
            simp only [AllV, rdP, isV, forall_eq, rgPut, Act.put, List.setIfInBounds_toArray, List.set_cons_zero, List.set_cons_succ]
            rintro v ⟨bb, rfl, hrd⟩
            refine OpOk.run ?_ (fun K hK => ?_)
            · rfl
            have HOx := Lib.hid (HOi.out.below hs.out (Nat.le_refl _))
            have HBx := Lib.hid (HBi.out.trans (hs.out.mono HBi.out.size))
            refine op2_append_list _ _ rfl w.heap.size (.slice ox on oc) on (lisC ys) rfl (by have h := HOx.out; rw [← HON.out] at h; exact h) (.slice (some ⟨bb, 0, none⟩) 1 1) [.int .u8 k, (.slice (some ⟨ib, io + i * 17, none⟩) 1 (ic - i))] rfl hrd (by intro u hu; simp only [List.mem_cons, List.not_mem_nil, or_false] at hu; rcases hu with hu | hu <;> (rw [hu]; rfl)) (by have := HOB.out; omega) HBx.out.size ?_
            intro v' w2 ho2 hg2 _
            refine hK.out _ _ trivial ?_
            obtain ⟨a2, c2, rfl, _, _⟩ := Own.shape ho2
            exact ⟨a2, c2, rfl, ho2, HBx.out.grown hg2 HBx.out.size (fun q hq => (Own.lt HOx.out q hq).1)⟩
          case hs =>
            intro o ns ho' hns w' v hT vals hv1
            have e1 : some _ = some o := ho'
            have e2 : some _ = some ns := hns
            cases e1
            cases e2
            simp only [List.map_cons, List.map_nil, hv1, rgPut, Act.put, List.setIfInBounds_toArray, List.set_cons_zero, List.set_cons_succ]
            clear hT
            refine OpOk.run ?_ (fun K hK => ?_)
            · rfl
            go_simp
            refine hK.out _ _ rfl ?_
            exact rfl
          case hend =>
            intro w' v hT vals hv1 hv2
            clear HST hRS
            simp only [List.map_cons, List.map_nil, hv1, hv2, rgPut, Act.put, List.setIfInBounds_toArray, List.set_cons_zero, List.set_cons_succ]
            obtain ⟨a2, c2, rfl, ho2, hb2⟩ := hT
            have HO2 := Lib.hid ho2
            have HB2 := Lib.hid hb2
            clear ho2 hb2 hv1 hv2
            have HON2 : Hid (on + 1 = (ys ++ [(⟨k, [y], (.slice (some ⟨ib, io + i * 17, none⟩) 1 (ic - i))⟩ : LiV)]).length) := Lib.hid (by rw [List.length_append, HON.out]; rfl)
            have HYS2 : Hid ((ys ++ [(⟨k, [y], (.slice (some ⟨ib, io + i * 17, none⟩) 1 (ic - i))⟩ : LiV)]).map LiV.li = itemsL (L.take j) ++ (x.i.take (i + 1)).map (fun z => ⟨k, [z.it]⟩)) := Lib.hid (by
              rw [List.map_append, HYS.out, take_at HYE.out, List.map_append, List.append_assoc]
              rfl)
            have HYI2 : Hid (∀ u ∈ ys ++ [(⟨k, [y], (.slice (some ⟨ib, io + i * 17, none⟩) 1 (ic - i))⟩ : LiV)], (0 ≤ u.k ∧ u.k ≤ 255) ∧ Its w u.v u.i) := Lib.hid (fun u hu => by
              rcases List.mem_append.1 hu with hu | hu
              · exact HYI.out u hu
              · rw [List.mem_singleton.1 hu]; exact ⟨HKX.out, HI1.out⟩)
            have HOW2 : Hid (Own w' w.heap.size 39 2 (.slice a2 (on + 1) c2) (ys ++ [(⟨k, [y], (.slice (some ⟨ib, io + i * 17, none⟩) 1 (ic - i))⟩ : LiV)]).length (lisC (ys ++ [(⟨k, [y], (.slice (some ⟨ib, io + i * 17, none⟩) 1 (ic - i))⟩ : LiV)]))) := Lib.hid (by
              rw [← HON2.out, lisC_snoc]
              exact HO2.out)
            go_wp2
            go_roundw
            case rel => exact ⟨i + 1, a2, on + 1, c2, ys ++ [⟨k, [y], (.slice (some ⟨ib, io + i * 17, none⟩) 1 (ic - i))⟩], hlt3, by go_num, rfl, HON2, HYS2, HYI2, HOW2, HB2⟩
            case measure => simp [intOf]; omega
        · obtain rfl : n = i := by omega
          have hdl3 : decide ((n : Int) < (n : Int)) = false := by simp
          have HE : Hid (ys.map LiV.li = itemsL (L.take (j + 1))) := Lib.hid (by
            rw [HYS.out, itemsL_at HX.out, List.take_of_length_le (l := x.i) (by rw [← HNI.out]; exact Nat.le_refl _), hk.out]
            show _ = itemsL (L.take j) ++ (x.i.map ItV.it).map _
            rw [List.map_map]
            rfl)
          go_wp2
          go_roundw
          case rel => exact ⟨j + 1, ox, on, oc, ys, hlt, by go_num, rfl, HON, HE, HYI, HOi, HBi⟩
          case measure => simp [intOf]; omega
    · obtain rfl : N = j := by omega
      have hdl : decide ((N : Int) < (N : Int)) = false := by simp
      have HE : Hid (ys.map LiV.li = itemsL L) := Lib.hid (by rw [HYS.out, List.take_of_length_le (by rw [← hL.out, List.length_map, hN.out]; exact Nat.le_refl _)])
      have HLL : Hid (Lis wo (.slice ox on oc) ys) := Lib.hid ⟨HO.out.rd, fun y hy => (HYI.out y hy).1, fun y hy => (HYI.out y hy).2.below HB.out⟩
      go_wp2
      go_ret
      exact ⟨ox, on, oc, ys, rfl, HE, HLL, HB.out⟩

set_option maxRecDepth 100000 in
set_option maxHeartbeats 4000000 in
theorem in_calls (v : Value) (xs : List LiV) (k : Int) (zs : List ItV) (xv : Value) (w : World) (L : List Li) (hL : xs.map LiV.li = L) (X : Li) (hX : X = ⟨k, zs.map ItV.it⟩) (hv : Lis w v xs) (hk : 0 ≤ k ∧ k ≤ 255) (hz : Its w xv zs) (hn : xs.length ≤ 1000000000) (hi : ∀ x ∈ xs, x.i.length ≤ 1000000000) (hzn : zs.length ≤ 1000000000) :
    Calls Try.prog 20 #[v, .agg #[.int .u8 k, xv]] w fun e w' => e = .returned (.int .i64 (cntL L X : Int)) ∧ Below w.heap.size w w' := by
  have HV := Lib.hid hv
  have HI := Lib.hid hi
  have HZ := Lib.hid hz
  have HZN := Lib.hid hzn
  have HK := Lib.hid hk
  have HLM := Lib.hid hL
  have HXD := Lib.hid hX
  obtain ⟨a, cap, rfl, h1, h2⟩ := hv.open
  obtain ⟨xa, xc, rfl, h3, h4⟩ := hz.open
  clear hv hi hz hk hL hX hzn
  obtain ⟨N, hN⟩ : ∃ n, Hid (n = xs.length) := ⟨_, Lib.hid rfl⟩
  rw [← hN.out] at HV h1 hn ⊢
  obtain ⟨xn, hxn⟩ : ∃ n, Hid (n = zs.length) := ⟨_, Lib.hid rfl⟩
  rw [← hxn.out] at HZ h3 ⊢
  have HNB := Lib.hid hn
  have HNC := Lib.hid h1
  obtain ⟨n0, hn0⟩ : ∃ m, Hid (m = w.heap.size) := ⟨_, Lib.hid rfl⟩
  obtain ⟨w0, hw0⟩ : ∃ W, Hid (W = w.alloc (.cells #[.int .u8 k, .slice xa xn xc] 39)) := ⟨_, Lib.hid rfl⟩
  have HR0 : Hid (w0.rangeAt n0 0 [.int .u8 k, .slice xa xn xc]) := Lib.hid (by rw [hw0.out]; exact (RowAt.new w #[.int .u8 k, .slice xa xn xc] 39 n0 hn0.out).range)
  have HB0 : Hid (Below w.heap.size w w0) := Lib.hid (by rw [hw0.out]; exact (Below.refl w.heap.size w).alloc (Nat.le_refl _) _)
  have hsz : ∀ B : Nat, w.heap.size = B → n0 = B := fun B h => hn0.out.trans h
  go_enter Try.func20, Try.ntmps20
  go_wp2
  rw [← hw0.out, ← hn0.out]
  clear hsz
  go_loopw [6, 5] (fun j_ n_ wr => ∃ (j : Nat), j ≤ N ∧ j_ = .int .i64 j ∧ n_ = .int .i64 (cntL (L.take j) X : Int) ∧ Hid (Below w0.heap.size w0 wr)) (fun j_ _ _ => N - (intOf j_).toNat)
  case atStart => exact ⟨0, Nat.zero_le _, rfl, rfl, Lib.hid (Below.refl _ _)⟩
  case round =>
    obtain ⟨j, hj, rfl, rfl, HBi⟩ := hrel
    obtain ⟨wi, hwi⟩ : ∃ wi : World, wi = wr := ⟨_, rfl⟩
    subst hwi
    by_cases hlt : j < N
    · obtain ⟨b, off, x, ia, n, ic, hx, ha, hrow, hxv, hm, hmc, hc, hits⟩ := HV.out.item j (by rw [← hN.out]; exact hlt)
      subst ha
      have hdl : decide ((j : Int) < (N : Int)) = true := by simp; omega
      have HX : Hid (L[j]? = some x.li) := Lib.hid (by rw [← HLM.out]; exact li_at hx)
      have HXI := Lib.hid (HI.out x (List.mem_of_getElem? hx))
      have HL1 := Lib.hid (lis_one HV.out hx)
      have HLT := Lib.hid hlt
      have HWI : Hid (Below w.heap.size w wi) := Lib.hid (HB0.out.trans (HBi.out.mono HB0.out.size))
      have HRX : Hid (wi.rangeAt n0 0 [.int .u8 k, .slice xa xn xc]) := Lib.hid (range_below HR0.out HBi.out)
      obtain ⟨B, hB⟩ : ∃ B : Bool, Hid (B = decide (x.li = X)) := ⟨_, Lib.hid rfl⟩
      have HBV : Hid (B = decide ([x].map LiV.li = [(⟨k, zs, .slice xa xn xc⟩ : LiV)].map LiV.li)) := Lib.hid (by
        rw [hB.out, HXD.out]
        have : (x.li = ⟨k, zs.map ItV.it⟩) ↔ ([x].map LiV.li = [(⟨k, zs, .slice xa xn xc⟩ : LiV)].map LiV.li) := by
          show _ ↔ [x.li] = [⟨k, zs.map ItV.it⟩]
          simp
        exact decide_eq_decide.2 this)
      have HST : Hid (cntL (L.take (j + 1)) X = cntL (L.take j) X + (if B then 1 else 0)) := Lib.hid (by
        rw [cntL_snoc HX.out, hB.out]
        by_cases h : x.li = X <;> simp [h])
      have HCB : Hid (cntL (L.take j) X ≤ 1000000000) := Lib.hid (by
        have h5 := cntL_le (L.take j) X
        rw [List.length_take] at h5
        have := HNB.out
        omega)
      obtain ⟨C, hC⟩ : ∃ C, Hid (C = cntL (L.take j) X) := ⟨_, Lib.hid rfl⟩
      rw [← hC.out] at HST HCB ⊢
      have hcb := HCB.out
      clear hrow hx hxv hm hits
      go_wp2_with fail
      refine' wp_region_grows (by kernel_rfl) (fun w' => Hid (Below wi.heap.size wi w')) [isV (.slice (some ⟨b, off, none⟩) N cap), isV (.int .i64 (j : Int)), isV (.int .i64 (j : Int)), isV (.int .i64 ((j : Int) + 1)), isV (.slice (some ⟨b, off + j * 2, none⟩) 1 (cap - j)), isV (.agg #[.int .u8 k, .slice xa xn xc]), fun v w' => ∃ bb, v = .slice (some ⟨bb, 0, none⟩) 1 1 ∧ Rd w' 2 v 1 [.int .u8 k, .slice xa xn xc], isV (.bool B)] 24 [[], [], [], [(2, some 15)], [(0, some 13), (1, some 14), (3, some 16)], [], [(5, some 18)], [(4, some 17), (6, some 19)]] [(0, some 13), (1, some 14), (2, some 15), (3, some 16), (4, some 17), (5, some 18), (6, some 19), (7, some 20)] rfl (by kernel_rfl) ⟨fun _ _ _ _ h => h, fun _ _ _ _ h => h, fun _ _ _ _ h => h, fun _ _ _ _ h => h, fun _ _ _ _ h => h, fun _ _ _ _ h => h, fun _ _ _ hg ⟨bb, e, h⟩ => ⟨bb, e, Rd.below h hg (Nat.le_refl _)⟩, fun _ _ _ _ h => h, trivial⟩ (fun _ a a' _ e h => by cases a; cases a'; cases e; exact h) ?hS ?hsteps ?hend
      case hS => exact fun w' hg => Lib.hid ((Below.refl _ _).drew.trans hg)
      case hsteps =>
        refine ⟨?_, ?_, ?_, ?_, ?_, ?_, ?_, ?_, trivial⟩
        · intro w' hs
          simp only [AllV, rgPut]
          clear hs
          refine OpOk.run ?_ (fun K hK => ?_)
          · rfl
          go_simp
          refine hK.out _ _ (Grows.refl _) ?_
          exact rfl
        · intro w' hs
          simp only [AllV, rgPut]
          clear hs
          refine OpOk.run ?_ (fun K hK => ?_)
          · rfl
          go_simp
          refine hK.out _ _ (Grows.refl _) ?_
          exact rfl
        · intro w' hs
          simp only [AllV, rgPut]
          clear hs
          refine OpOk.run ?_ (fun K hK => ?_)
          · rfl
          go_simp
          refine hK.out _ _ (Grows.refl _) ?_
          exact rfl
        · intro w' hs
          simp only [AllV, rdP, isV, forall_eq, rgPut, Act.put, List.setIfInBounds_toArray, List.set_cons_zero, List.set_cons_succ]
          have hwr : IntKind.i64.wrap ((j : Int) + 1) = (j : Int) + 1 := IntWalk.i64_in _ (by have := HLT.out; have := HNB.out; omega)
          clear hs
          refine OpOk.run ?_ (fun K hK => ?_)
          · rfl
          go_simp
          refine hK.out _ _ (Grows.refl _) ?_
          exact rfl
        · intro w' hs
          simp only [AllV, rdP, isV, forall_eq, rgPut, Act.put, List.setIfInBounds_toArray, List.set_cons_zero, List.set_cons_succ]
          have hcut := run_slL w' b off N cap j HLT.out HNC.out
          clear hs
          refine OpOk.run ?_ (fun K hK => ?_)
          · rfl
          go_simp
          refine hK.out _ _ (Grows.refl _) ?_
          exact rfl
        · intro w' hs
          simp only [AllV, rgPut]
          refine OpOk.run ?_ (fun K hK => ?_)
          · rfl
          refine wp_load_mid 39 _ rfl n0 0 rfl [.int .u8 k, .slice xa xn xc] _ (range_below HRX.out hs.out) Try.underlying39 rfl (by kernel_rfl) ?_
          refine hK.out _ _ (Grows.refl _) ?_
          exact rfl
        · intro w' hs
          simp only [AllV, rdP, isV, forall_eq, rgPut, Act.put, List.setIfInBounds_toArray, List.set_cons_zero, List.set_cons_succ]
          clear hs
          refine OpOk.run ?_ (fun K hK => ?_)
          · rfl
          go_simp
          refine hK.out _ _ ((Below.refl _ _).alloc (Nat.le_refl _) _) ?_
          exact ⟨w'.heap.size, rfl, rd_one (w := w') (X := [.int .u8 k, .slice xa xn xc]) (t := 39)⟩
        · intro w' hs
          simp only [AllV, rdP, isV, forall_eq, rgPut, Act.put, List.setIfInBounds_toArray, List.set_cons_zero, List.set_cons_succ]
          rintro v1 ⟨bb, rfl, hrd⟩
          refine OpOk.run ?_ (fun K hK => ?_)
          · rfl
          go_simp
          go_at_call 18
          refine (sameLists_calls _ (.slice (some ⟨bb, 0, none⟩) 1 1) [x] [(⟨k, zs, .slice xa xn xc⟩ : LiV)] w' (HL1.out.below (HWI.out.trans (hs.out.mono HWI.out.size))) ⟨hrd, fun u hu => by rw [List.mem_singleton.1 hu]; exact HK.out, fun u hu => by rw [List.mem_singleton.1 hu]; exact HZ.out.below (HWI.out.trans (hs.out.mono HWI.out.size))⟩ (by simp) (by simp) (fun u hu => by rw [List.mem_singleton.1 hu]; exact HXI.out) (fun u hu => by rw [List.mem_singleton.1 hu]; exact HZN.out)).mono ?_
          rintro e w1 ⟨rfl, hb⟩
          refine hK.out _ _ hb ?_
          exact congrArg Value.bool HBV.out.symm
      case hend =>
        intro w' hs
        simp only [AllV, rdP, isV, forall_eq, rgPut, Act.put, List.setIfInBounds_toArray, List.set_cons_zero, List.set_cons_succ]
        rintro v6 -
        have HB2 := Lib.hid (HBi.out.trans (hs.out.mono HBi.out.size))
        clear hs
        cases B with
        | true =>
          have HE : Hid (((C : Int) + 1) = (cntL (L.take (j + 1)) X : Int)) := Lib.hid (by rw [HST.out]; simp)
          go_wp2
          go_roundw
          case rel => exact ⟨j + 1, HLT.out, by go_num, by rw [← HE.out], HB2⟩
          case measure => have := HLT.out; simp [intOf]; omega
        | false =>
          have HE : Hid (((C : Int)) = (cntL (L.take (j + 1)) X : Int)) := Lib.hid (by rw [HST.out]; simp)
          go_wp2
          go_roundw
          case rel => exact ⟨j + 1, HLT.out, by go_num, by rw [← HE.out], HB2⟩
          case measure => have := HLT.out; simp [intOf]; omega
    · obtain rfl : N = j := by omega
      have hdl : decide ((N : Int) < (N : Int)) = false := by simp
      have HE : Hid (cntL (L.take N) X = cntL L X) := Lib.hid (by rw [List.take_of_length_le (by rw [← HLM.out, List.length_map, hN.out]; exact Nat.le_refl _)])
      rw [HE.out]
      have HB2 := Lib.hid (HB0.out.trans (HBi.out.mono HB0.out.size))
      go_wp2
      go_ret
      exact ⟨rfl, HB2.out⟩

end Go.Proofs.Ytilanncobbdlfaa

/-
  The walk of the law SiglistBack.
-/
namespace Go.Proofs.Ytilanncobbdlfaa
open Go Go.RowKit
set_option linter.unusedVariables false

def MrgForm (R : List UInt8) (E : Int) (w : World) (e : Ending) (w' : World) : Prop := ∃ x n c, e = .returned (.tuple #[.slice x n c, .int .i64 E]) ∧ Hid (OwnB w' w.heap.size (.slice x n c) R) ∧ Below w.heap.size w w'
theorem mrg_of {f : FuncId} {a b : Value} {A B : List UInt8} {w : World} (h : Calls Try.prog f #[a, b] w (MrgRes A B w)) (R : List UInt8) (hR : R = mrgR A B) (E : Int) (hE : E = mrgE A B) : Calls Try.prog f #[a, b] w (MrgForm R E w) := by
  subst hR hE
  refine h.mono fun e w' hr => ?_
  unfold MrgRes at hr
  obtain ⟨x, n, c, rfl, ho, hb⟩ := hr
  exact ⟨x, n, c, rfl, Lib.hid ho, hb⟩
/-- What was written, merged with itself. -/
theorem self_back {L : List Li} (hl : wrB L = true) (hlo : OwnO L) (hn : (lsW L).length ≤ 65536) : mrgE (lsW L) (lsW L) = 0 ∧ mrgR (lsW L) (lsW L) = lsW L := by
  obtain ⟨a1, a2⟩ := read_back hl hlo hn
  have h := mrg_self L L (fun p hp => hp) L.length (Nat.le_refl _)
  obtain ⟨h5, h6⟩ := wrE_of hl hn
  refine ⟨?_, ?_⟩
  · unfold mrgE mrgQ
    rw [if_pos a2, if_pos a2, a1, h]
    exact h5
  · unfold mrgR mrgQ
    rw [if_pos ⟨a2, a2⟩, a1, h]
    exact h6
theorem one_item {xs : List LiV} {L : List Li} (h : xs.map LiV.li = itemsL L) : ∀ u ∈ xs, u.i.length ≤ 1000000000 := fun u hu => by
  have h1 : u.li ∈ itemsL L := by rw [← h]; exact List.mem_map.2 ⟨u, hu, rfl⟩
  unfold itemsL at h1
  obtain ⟨p, _, e⟩ := List.mem_map.1 h1
  have h2 := congrArg (fun x : Li => x.i.length) e
  have h3 : u.li.i.length = u.i.length := by simp [LiV.li]
  have h4 : (one1 p).i.length = 1 := rfl
  omega
theorem items_bound {L : List Li} (h : LiS L) : (itemsL L).length ≤ 34952500 := by
  have h1 := itP_bound 349525 L h.2.1
  have h2 := Nat.mul_le_mul_right 349525 h.1
  rw [itemsL_length]
  omega
set_option maxRecDepth 100000 in
set_option maxHeartbeats 16000000 in
theorem siglistBack_walk (v : Value) (xs : List LiV) (v2 : Value) (ys : List LiV) (q : Value) (d : List UInt8) (w : World) (hv : Lis w v xs) (hi : ∀ x ∈ xs, x.i.length * 3 ≤ 1048576) (hv2 : Lis w v2 ys) (hi2 : ∀ x ∈ ys, x.i.length * 3 ≤ 1048576) (hq : Byt w q d) :
    Calls Try.prog 4 #[v, v2, q] w fun e w' => e = .returned (.bool true) ∧ Below w.heap.size w w' := by
  have HV := Lib.hid hv
  have HI := Lib.hid hi
  have HV2 := Lib.hid hv2
  have HI2 := Lib.hid hi2
  have HQ := Lib.hid hq
  obtain ⟨a, cap, rfl, h1, h2⟩ := hv.open
  obtain ⟨a2, cap2, rfl, h3, h4⟩ := hv2.open
  obtain ⟨aq, cq, rfl, q1, q2, _⟩ := hq.open
  clear hv hi hv2 hi2 hq
  unfold maxLen at q2
  obtain ⟨N, hN⟩ : ∃ n, Hid (n = xs.length) := ⟨_, Lib.hid rfl⟩
  obtain ⟨N2, hN2⟩ : ∃ n, Hid (n = ys.length) := ⟨_, Lib.hid rfl⟩
  obtain ⟨nq, hnq⟩ : ∃ n, Hid (n = d.length) := ⟨_, Lib.hid rfl⟩
  rw [← hN.out] at HV h1 ⊢
  rw [← hN2.out] at HV2 h3 ⊢
  rw [← hnq.out] at HQ q1 ⊢
  obtain ⟨L, hL⟩ : ∃ L, Hid (xs.map LiV.li = L) := ⟨_, Lib.hid rfl⟩
  obtain ⟨M, hM⟩ : ∃ L, Hid (ys.map LiV.li = L) := ⟨_, Lib.hid rfl⟩
  have HB0 : Hid (Below w.heap.size w w) := Lib.hid (Below.refl _ _)
  go_enter Try.func4, Try.ntmps4
  go_wp2_with fail
  refine (vast_form _ xs L w hL.out HV.out HI.out).mono ?_
  rintro e w' ⟨⟨BV, rfl, hBV⟩, rfl⟩
  cases BV with
  | true =>
    clear hBV
    go_wp2_with fail
    refine (works_calls _).mono ?_
    rintro e w99 ⟨rfl, hb⟩
    have HB99 := Lib.hid (HB0.out.trans (hb.mono HB0.out.size))
    clear hb
    go_wp2
    go_ret
    exact ⟨rfl, HB99.out⟩
  | false =>
  have HS := Lib.hid (hBV rfl)
  clear hBV
  go_wp2_with fail
  refine (vast_form _ ys M w hM.out HV2.out HI2.out).mono ?_
  rintro e w' ⟨⟨BV, rfl, hBV⟩, rfl⟩
  cases BV with
  | true =>
    clear hBV
    go_wp2_with fail
    refine (works_calls _).mono ?_
    rintro e w99 ⟨rfl, hb⟩
    have HB99 := Lib.hid (HB0.out.trans (hb.mono HB0.out.size))
    clear hb
    go_wp2
    go_ret
    exact ⟨rfl, HB99.out⟩
  | false =>
  have HS2 := Lib.hid (hBV rfl)
  clear hBV
  by_cases hb2 : 65536 < nq
  · have e2 : decide ((65536 : Int) < (nq : Int)) = true := by simp; omega
    go_wp2_with fail
    refine (works_calls _).mono ?_
    rintro e w99 ⟨rfl, hb⟩
    have HB99 := Lib.hid (HB0.out.trans (hb.mono HB0.out.size))
    clear hb
    go_wp2
    go_ret
    exact ⟨rfl, HB99.out⟩
  have e2 : decide ((65536 : Int) < (nq : Int)) = false := by simp; omega
  have HNQ : Hid (d.length ≤ 65536) := Lib.hid (by rw [← hnq.out]; omega)
  clear hb2
  obtain ⟨LD, hLD⟩ : ∃ X, Hid (X = resL d) := ⟨_, Lib.hid rfl⟩
  obtain ⟨ED, hED⟩ : ∃ X, Hid (X = resE d) := ⟨_, Lib.hid rfl⟩
  obtain ⟨X, hX⟩ : ∃ X, Hid (X = wrR L) := ⟨_, Lib.hid rfl⟩
  obtain ⟨EX, hEX⟩ : ∃ X, Hid (X = wrE L) := ⟨_, Lib.hid rfl⟩
  obtain ⟨Y, hY⟩ : ∃ X, Hid (X = wrR M) := ⟨_, Lib.hid rfl⟩
  obtain ⟨EY, hEY⟩ : ∃ X, Hid (X = wrE M) := ⟨_, Lib.hid rfl⟩
  have HIL := Lib.hid (items_bound HS.out)
  have HIM := Lib.hid (items_bound HS2.out)
  go_wp2_with fail
  refine (twin_calls _ d _ HQ.out (by have := HNQ.out; omega)).mono ?_
  rintro e w1 ⟨u1, rfl, ho, hb⟩
  have HB1 := Lib.hid hb
  have HT1 := Lib.hid ho.byt
  clear hb ho
  go_wp2_with fail
  refine (rd_form (sgReadAll_calls _ d _ HT1.out (by have := HNQ.out; omega)) LD hLD.out ED hED.out 349525 (by have := HNQ.out; omega)).mono ?_
  rintro e w2 ⟨a2_, m2, c2, rs, rfl, ho, hm, hN2_, hm2, hb⟩
  have HB2 := Lib.hid (HB1.out.trans (hb.mono HB1.out.size))
  have HR2 := Lib.hid ho.lis
  have HRM := Lib.hid hm
  have HRN := Lib.hid hN2_
  clear hb ho hm hN2_
  by_cases hE : ED = 0
  case pos =>
    have heq : (ED == 0) = true := by simp [hE]
    have HWB := Lib.hid (write_back (hED.out.symm.trans hE))
    have HGD := Lib.hid (resL_good d)
    rw [← hLD.out] at HWB HGD
    clear hE
    go_wp2_with fail
    refine (wr_of (sgWrite_calls _ rs _ HR2.out (by have := HRN.out.1; omega) (fun x hx => by have := HRN.out.2 x hx; omega) (fun x hx y hy => Nat.le_trans (data_of HRM.out HGD.out.1 x hx y hy) (by omega))) d (by rw [HRM.out]; exact HWB.out.2.1.symm) 0 (by rw [HRM.out]; exact HWB.out.1.symm)).mono ?_
    rintro e w3 ⟨a3, n3, c3, rfl, hn3, hl3, ho3, hb⟩
    have HB3 := Lib.hid (HB2.out.trans (hb.mono HB2.out.size))
    have HW3 := Lib.hid ho3.out.byt
    clear hb ho3
    go_wp2_with fail
    refine (same_form d d true (decide_eq_true rfl) _ _ _ HW3.out (HQ.out.below HB3.out)).mono ?_
    rintro e w' ⟨rfl, rfl⟩
    have HBR := HB3
    clear heq HW3 HR2
    go_wp2_with fail
    refine (twins_form _ xs L _ hL.out (HV.out.below HBR.out) HS.out).mono ?_
    rintro e w10 ⟨a10, m10, c10, xs1, rfl, hm1, ho1, hb⟩
    have HB10 := Lib.hid (HBR.out.trans (hb.mono HBR.out.size))
    clear hb
    go_wp2_with fail
    refine (wr_form _ xs1 L X hX.out EX hEX.out _ hm1.out ho1.out.lis HS.out).mono ?_
    rintro e w11 ⟨a11, n11, c11, rfl, hn11, hl11, ho11, hb⟩
    have HB11 := Lib.hid (HB10.out.trans (hb.mono HB10.out.size))
    have HX11 := Lib.hid ho11.out.byt
    clear hb hm1 ho1 ho11
    go_wp2_with fail
    refine (twins_form _ ys M _ hM.out (HV2.out.below HB11.out) HS2.out).mono ?_
    rintro e w12 ⟨a12, m12, c12, ys1, rfl, hm1, ho1, hb⟩
    have HB12 := Lib.hid (HB11.out.trans (hb.mono HB11.out.size))
    have HX12 := Lib.hid (HX11.out.below hb)
    clear hb
    go_wp2_with fail
    refine (wr_form _ ys1 M Y hY.out EY hEY.out _ hm1.out ho1.out.lis HS2.out).mono ?_
    rintro e w13 ⟨a13, n13, c13, rfl, hn13, hl13, ho13, hb⟩
    have HB13 := Lib.hid (HB12.out.trans (hb.mono HB12.out.size))
    have HX13 := Lib.hid (HX12.out.below hb)
    have HY13 := Lib.hid ho13.out.byt
    clear hb hm1 ho1 ho13
    by_cases hx0 : EX = 0
    case neg =>
      have hne : (EX != 0) = true := by simp [hx0]
      clear hx0
      go_wp2_with fail
      refine (works_calls _).mono ?_
      rintro e w99 ⟨rfl, hb⟩
      have HB99 := Lib.hid (HB13.out.trans (hb.mono HB13.out.size))
      clear hb
      go_wp2
      go_ret
      exact ⟨rfl, HB99.out⟩
    case pos =>
      subst hx0
      by_cases hy0 : EY = 0
      case neg =>
        have hne : (EY != 0) = true := by simp [hy0]
        clear hy0
        go_wp2_with fail
        refine (works_calls _).mono ?_
        rintro e w99 ⟨rfl, hb⟩
        have HB99 := Lib.hid (HB13.out.trans (hb.mono HB13.out.size))
        clear hb
        go_wp2
        go_ret
        exact ⟨rfl, HB99.out⟩
      case pos =>
        subst hy0
        have HWL := Lib.hid (wrE_zero hEX.out.symm)
        have HWM := Lib.hid (wrE_zero hEY.out.symm)
        have HXE : Hid (X = lsW L) := Lib.hid (hX.out.trans HWL.out.2.2)
        have HYE : Hid (Y = lsW M) := Lib.hid (hY.out.trans HWM.out.2.2)
        have HOL : Hid (OwnO L) := Lib.hid (OwnO.of HV.out hL.out)
        have HOM : Hid (OwnO M) := Lib.hid (OwnO.of HV2.out hM.out)
        have HRB := Lib.hid (read_back HWL.out.1 HOL.out HWL.out.2.1)
        have HXL : Hid (X.length ≤ 65536) := hl11
        have HYL : Hid (Y.length ≤ 65536) := hl13
        go_wp2_with fail
        refine (rd_form (sgReadAll_calls _ X _ HX13.out (by have := HXL.out; omega)) L (by rw [HXE.out]; exact HRB.out.1.symm) 0 (by rw [HXE.out]; exact HRB.out.2.symm) 349525 (by have := HXL.out; omega)).mono ?_
        rintro e w14 ⟨a14, m14, c14, ps, rfl, ho, hm, hN14, hm14, hb⟩
        have HB14 := Lib.hid (HB13.out.trans (hb.mono HB13.out.size))
        have HP14 := Lib.hid ho.lis
        have HPM := Lib.hid hm
        have HPN := Lib.hid hN14
        have HX14 := Lib.hid (HX13.out.below hb)
        have HY14 := Lib.hid (HY13.out.below hb)
        clear ho hm hN14 hb
        go_wp2_with fail
        refine (sameLists_form _ _ ps xs L L true _ (decide_eq_true rfl) HPM.out hL.out HP14.out (HV.out.below HB14.out) HPN.out (HS.out.lisN hL.out) (by decide)).mono ?_
        rintro e w15 ⟨rfl, hb⟩
        have HB15 := Lib.hid (HB14.out.trans (hb.mono HB14.out.size))
        have HX15 := Lib.hid (HX14.out.below hb)
        have HY15 := Lib.hid (HY14.out.below hb)
        clear hb HP14 HPM HPN
        go_wp2_with fail
        refine (items_calls _ xs _ (HV.out.below HB15.out) (by have := (HS.out.xs hL.out).1; omega) (by rw [hL.out]; have := HIL.out; omega)).mono ?_
        rintro e w16 ⟨aa, na, ca, las, rfl, hma, hla, hb⟩
        have HB16 := Lib.hid (HB15.out.trans (hb.mono HB15.out.size))
        have HX16 := Lib.hid (HX15.out.below hb)
        have HY16 := Lib.hid (HY15.out.below hb)
        have HAM : Hid (las.map LiV.li = itemsL L) := Lib.hid (by rw [← hL.out]; exact hma.out)
        clear hb hma
        go_wp2_with fail
        refine (items_calls _ ys _ (HV2.out.below HB16.out) (by have := (HS2.out.xs hM.out).1; omega) (by rw [hM.out]; have := HIM.out; omega)).mono ?_
        rintro e w17 ⟨ac, nc, cc, cs, rfl, hmc, hlc, hb⟩
        have HB17 := Lib.hid (HB16.out.trans (hb.mono HB16.out.size))
        have HX17 := Lib.hid (HX16.out.below hb)
        have HY17 := Lib.hid (HY16.out.below hb)
        have HCM : Hid (cs.map LiV.li = itemsL M) := Lib.hid (by rw [← hM.out]; exact hmc.out)
        have HA17 := Lib.hid (hla.out.below hb)
        have HC17 := hlc
        clear hb hmc hla
        have HNA : Hid (na = (itemsL L).length) := Lib.hid (by
          obtain ⟨_, _, e, _⟩ := HA17.out.open
          simp only [Value.slice.injEq] at e
          rw [e.2.1, ← HAM.out, List.length_map])
        have HNC : Hid (nc = (itemsL M).length) := Lib.hid (by
          obtain ⟨_, _, e, _⟩ := HC17.out.open
          simp only [Value.slice.injEq] at e
          rw [e.2.1, ← HCM.out, List.length_map])
        have hnab : na ≤ 100000000 := by have := HNA.out; have := HIL.out; omega
        have hncb : nc ≤ 100000000 := by have := HNC.out; have := HIM.out; omega
        have hnxb : n11 ≤ 65536 := by have := hn11.out; have := HXL.out; omega
        have hnyb : n13 ≤ 65536 := by have := hn13.out; have := HYL.out; omega
        by_cases h60 : 60 < na + nc
        case pos =>
          have hd60 : decide ((60 : Int) < (na : Int) + (nc : Int)) = true := by simp; omega
          go_wp2_with fail
          refine (works_calls _).mono ?_
          rintro e w99 ⟨rfl, hb⟩
          have HB99 := Lib.hid (HB17.out.trans (hb.mono HB17.out.size))
          clear hb
          go_wp2
          go_ret
          exact ⟨rfl, HB99.out⟩
        case neg =>
          have hd60 : decide ((60 : Int) < (na : Int) + (nc : Int)) = false := by simp; omega
          by_cases h64 : 65536 < n11 + n13
          case pos =>
            have hd64 : decide ((65536 : Int) < (n11 : Int) + (n13 : Int)) = true := by simp; omega
            go_wp2_with fail
            refine (works_calls _).mono ?_
            rintro e w99 ⟨rfl, hb⟩
            have HB99 := Lib.hid (HB17.out.trans (hb.mono HB17.out.size))
            clear hb
            go_wp2
            go_ret
            exact ⟨rfl, HB99.out⟩
          case neg =>
            have hd64 : decide ((65536 : Int) < (n11 : Int) + (n13 : Int)) = false := by simp; omega
            have HSUM : Hid ((lsW L).length + (lsW M).length ≤ 65536) := Lib.hid (by rw [← HXE.out, ← HYE.out]; have := hn11.out; have := hn13.out; omega)
            have H60 : Hid (na + nc ≤ 60) := Lib.hid (by omega)
            obtain ⟨QL, hQ⟩ : ∃ Q, Hid (Q = mrgA L M M.length) := ⟨_, Lib.hid rfl⟩
            obtain ⟨Z, hZ⟩ : ∃ Z, Hid (Z = lsW QL) := ⟨_, Lib.hid rfl⟩
            have HSB := Lib.hid (self_back HWL.out.1 HOL.out HWL.out.2.1)
            have HMB := Lib.hid (mrg_back HWL.out.1 HOL.out HWM.out.1 HOM.out HSUM.out)
            have HMH := Lib.hid (mrg_head (L := L) (M := M))
            have HBI := Lib.hid (back_items L M)
            rw [← hQ.out] at HMB HMH HBI
            rw [← hZ.out] at HMB HMH
            rw [← HXE.out] at HSB HMB HMH
            rw [← HYE.out] at HMB
            go_wp2_with fail
            refine (twin_calls _ X _ HX17.out (by have := HXL.out; omega)).mono ?_
            rintro e w18 ⟨u18, rfl, ho, hb⟩
            have HB18 := Lib.hid (HB17.out.trans (hb.mono HB17.out.size))
            have HX18 := Lib.hid (HX17.out.below hb)
            have HY18 := Lib.hid (HY17.out.below hb)
            have HA18 := Lib.hid (HA17.out.below hb)
            have HC18 := Lib.hid (HC17.out.below hb)
            have HT18 := Lib.hid ho.byt
            clear hb ho
            go_wp2_with fail
            refine (twin_calls _ X _ HX18.out (by have := HXL.out; omega)).mono ?_
            rintro e w19 ⟨u19, rfl, ho, hb⟩
            have HB19 := Lib.hid (HB18.out.trans (hb.mono HB18.out.size))
            have HX19 := Lib.hid (HX18.out.below hb)
            have HY19 := Lib.hid (HY18.out.below hb)
            have HA19 := Lib.hid (HA18.out.below hb)
            have HC19 := Lib.hid (HC18.out.below hb)
            have HT19 := Lib.hid (HT18.out.below hb)
            have HS19 := Lib.hid ho.byt
            clear hb ho
            go_wp2_with fail
            refine (mrg_of (merge_calls _ _ X X _ HT19.out HS19.out (by have := HXL.out; omega) (by have := HXL.out; omega)) X HSB.out.2.symm 0 HSB.out.1.symm).mono ?_
            rintro e w20 ⟨x20, n20, c20, rfl, ho, hb⟩
            have HB20 := Lib.hid (HB19.out.trans (hb.mono HB19.out.size))
            have HX20 := Lib.hid (HX19.out.below hb)
            have HY20 := Lib.hid (HY19.out.below hb)
            have HA20 := Lib.hid (HA19.out.below hb)
            have HC20 := Lib.hid (HC19.out.below hb)
            have HM20 := Lib.hid ho.out.byt
            clear hb ho HT18 HT19 HS19
            go_wp2_with fail
            refine (twin_calls _ X _ HX20.out (by have := HXL.out; omega)).mono ?_
            rintro e w21 ⟨u21, rfl, ho, hb⟩
            have HB21 := Lib.hid (HB20.out.trans (hb.mono HB20.out.size))
            have HX21 := Lib.hid (HX20.out.below hb)
            have HY21 := Lib.hid (HY20.out.below hb)
            have HA21 := Lib.hid (HA20.out.below hb)
            have HC21 := Lib.hid (HC20.out.below hb)
            have HM21 := Lib.hid (HM20.out.below hb)
            have HT21 := Lib.hid ho.byt
            clear hb ho
            go_wp2_with fail
            refine (twin_calls _ Y _ HY21.out (by have := HYL.out; omega)).mono ?_
            rintro e w22 ⟨u22, rfl, ho, hb⟩
            have HB22 := Lib.hid (HB21.out.trans (hb.mono HB21.out.size))
            have HX22 := Lib.hid (HX21.out.below hb)
            have HA22 := Lib.hid (HA21.out.below hb)
            have HC22 := Lib.hid (HC21.out.below hb)
            have HM22 := Lib.hid (HM21.out.below hb)
            have HT22 := Lib.hid (HT21.out.below hb)
            have HS22 := Lib.hid ho.byt
            clear hb ho
            go_wp2_with fail
            refine (mrg_of (merge_calls _ _ X Y _ HT22.out HS22.out (by have := HXL.out; omega) (by have := HYL.out; omega)) Z HMB.out.2.1.symm 0 HMB.out.1.symm).mono ?_
            rintro e w23 ⟨x23, n23, c23, rfl, ho, hb⟩
            have HB23 := Lib.hid (HB22.out.trans (hb.mono HB22.out.size))
            have HX23 := Lib.hid (HX22.out.below hb)
            have HA23 := Lib.hid (HA22.out.below hb)
            have HC23 := Lib.hid (HC22.out.below hb)
            have HM23 := Lib.hid (HM22.out.below hb)
            have HZ23 := Lib.hid ho.out.byt
            have HN23 : Hid (n23 = Z.length) := Lib.hid (by
              obtain ⟨_, _, e, _⟩ := ho.out.byt.open
              simp only [Value.slice.injEq] at e
              exact e.2.1)
            have HZL : Hid (Z.length ≤ 65536) := Lib.hid HMB.out.2.2.2.2
            have HQB := Lib.hid (read_back HMB.out.2.2.1 HMB.out.2.2.2.1 (by rw [← hZ.out]; exact HZL.out))
            rw [← hZ.out] at HQB
            clear hb ho HT21 HT22 HS22
            go_wp2_with fail
            refine (same_form X X true (decide_eq_true rfl) _ _ _ HM23.out HX23.out).mono ?_
            rintro e w' ⟨rfl, rfl⟩
            go_wp2_with fail
            refine (rd_form (sgReadAll_calls _ Z _ HZ23.out (by have := HZL.out; omega)) QL HQB.out.1.symm 0 HQB.out.2.symm 349525 (by have := HZL.out; omega)).mono ?_
            rintro e w24 ⟨a24, m24, c24, qs, rfl, ho, hm, hN24, hm24, hb⟩
            have HB24 := Lib.hid (HB23.out.trans (hb.mono HB23.out.size))
            have HX24 := Lib.hid (HX23.out.below hb)
            have HA24 := Lib.hid (HA23.out.below hb)
            have HC24 := Lib.hid (HC23.out.below hb)
            have HZ24 := Lib.hid (HZ23.out.below hb)
            have HQ24 := Lib.hid ho.lis
            have HQM := Lib.hid hm
            have HQN := Lib.hid hN24
            clear hb ho hm hN24
            have hle : n11 ≤ n23 := by have := HMH.out.1; have := HN23.out; have := hn11.out; omega
            have hle2 : decide (n23 < n11) = false := by simp; omega
            obtain ⟨yk, hrunk, hyk⟩ := byt_cutn HZ24.out HN23.out n11 (by have := HMH.out.1; have := HN23.out; have := hn11.out; omega)
            have HYK : Hid (Byt w24 (.slice yk n11 c23) X) := Lib.hid (by
              rw [hn11.out, HMH.out.2] at hyk
              rw [hn11.out]
              exact hyk)
            clear hyk
            go_wp2_with fail
            refine (same_form X X true (decide_eq_true rfl) _ _ _ HYK.out HX24.out).mono ?_
            rintro e w' ⟨rfl, rfl⟩
            go_wp2_with fail
            clear hrunk hle hle2
            refine (items_calls _ qs _ HQ24.out (by have := HQN.out.1; omega) (by rw [HQM.out]; have := HBI.out.2.2; have := HNA.out; have := HNC.out; have := H60.out; omega)).mono ?_
            rintro e w25 ⟨ua, nu, cu, us, rfl, hmu, hlu, hb⟩
            have HB25 := Lib.hid (HB24.out.trans (hb.mono HB24.out.size))
            have HA25 := Lib.hid (HA24.out.below hb)
            have HC25 := Lib.hid (HC24.out.below hb)
            have HU25 := hlu
            have HUM : Hid (us.map LiV.li = itemsL QL) := Lib.hid (by rw [← HQM.out]; exact hmu.out)
            have HNU : Hid (nu = us.length) := Lib.hid (by
              obtain ⟨_, _, e, _⟩ := HU25.out.open
              simp only [Value.slice.injEq] at e
              exact e.2.1)
            have HUL : Hid (nu ≤ 60) := Lib.hid (by
              have h := congrArg List.length HUM.out
              rw [List.length_map] at h
              have := HBI.out.2.2
              have := HNA.out
              have := HNC.out
              have := H60.out
              have := HNU.out
              omega)
            have HAI : Hid (∀ u ∈ las, u.i.length ≤ 1000000000) := Lib.hid (one_item HAM.out)
            have HCI : Hid (∀ u ∈ cs, u.i.length ≤ 1000000000) := Lib.hid (one_item HCM.out)
            have HUI : Hid (∀ u ∈ us, u.i.length ≤ 1000000000) := Lib.hid (one_item HUM.out)
            have HAN : Hid (las.length ≤ 60) := Lib.hid (by
              have h := congrArg List.length HAM.out
              rw [List.length_map] at h
              have := HNA.out
              have := H60.out
              omega)
            have HCN : Hid (cs.length ≤ 60) := Lib.hid (by
              have h := congrArg List.length HCM.out
              rw [List.length_map] at h
              have := HNC.out
              have := H60.out
              omega)
            clear hb hmu
            have hul := HUL.out
            go_wp2
            go_loopw [23] (fun i_ wr => ∃ j : Nat, j ≤ nu ∧ i_ = .int .i64 j ∧ Hid (Below w25.heap.size w25 wr)) (fun i_ _ => nu - (intOf i_).toNat)
            case atStart => exact ⟨0, Nat.zero_le _, rfl, Lib.hid (Below.refl _ _)⟩
            case round =>
              obtain ⟨j, hj, rfl, HBi⟩ := hrel
              obtain ⟨wi, hwi⟩ : ∃ wi : World, wi = wr := ⟨_, rfl⟩
              subst hwi
              by_cases hlt : j < nu
              · obtain ⟨b, off, x, ia, n, ic, hx, ha, hrow, hxv, hm, hmc, hc, hits⟩ := HU25.out.item j (by rw [← HNU.out]; exact hlt)
                subst ha
                have hdl : decide ((j : Int) < (nu : Int)) = true := by simp; omega
                have HLT := Lib.hid hlt
                have HKX := Lib.hid (HU25.out.kind x (List.mem_of_getElem? hx))
                have HXN := Lib.hid (HUI.out x (List.mem_of_getElem? hx))
                have HITS := Lib.hid (hits.below HBi.out)
                have HRX0 : Hid (wi.rangeAt b (off + j * 2) [.int .u8 x.k, .slice ia n ic]) := Lib.hid (range_below hrow HBi.out)
                have HMEM : Hid (x.li ∈ itemsL QL) := Lib.hid (by rw [← HUM.out]; exact List.mem_map.2 ⟨x, List.mem_of_getElem? hx, rfl⟩)
                have HLAW := Lib.hid (HBI.out.1 x.li HMEM.out)
                obtain ⟨k, hk⟩ : ∃ k, Hid (k = x.k) := ⟨_, Lib.hid rfl⟩
                rw [← hk.out] at HRX0 HKX
                have HRX : Hid (wi.rangeAt b (off + j * 2) [.int .u8 k, .slice ia n ic]) := HRX0
                have HXL2 : Hid (x.li = ⟨k, x.i.map ItV.it⟩) := Lib.hid (by rw [hk.out]; rfl)
                obtain ⟨CA, hCA⟩ : ∃ c, Hid (c = cntL (itemsL L) x.li) := ⟨_, Lib.hid rfl⟩
                obtain ⟨CC, hCC⟩ : ∃ c, Hid (c = cntL (itemsL M) x.li) := ⟨_, Lib.hid rfl⟩
                obtain ⟨CU, hCU⟩ : ∃ c, Hid (c = cntL (itemsL QL) x.li) := ⟨_, Lib.hid rfl⟩
                rw [← hCA.out, ← hCC.out, ← hCU.out] at HLAW
                have HCAB : Hid (CA ≤ 1000) := Lib.hid (by have := cntL_le (itemsL L) x.li; rw [← hCA.out, ← HNA.out] at this; have := H60.out; omega)
                have HCCB : Hid (CC ≤ 1000) := Lib.hid (by have := cntL_le (itemsL M) x.li; rw [← hCC.out, ← HNC.out] at this; have := H60.out; omega)
                have HZ0 : Hid (((CA : Int) + (CC : Int) == 0) = false) := Lib.hid (by have := HLAW.out.1; simp; omega)
                have HMX : Hid (∀ W : World, (Builtin.max_ #[3, 3] 3 #[.int .i64 (CA : Int), .int .i64 1]).run Try.prog W = .ok (.int .i64 (CU : Int)) W) := Lib.hid (fun W => by
                  have h := HLAW.out.2
                  simp only [Builtin.max_, Builtin.max2, List.foldlM_cons, List.foldlM_nil, Sem.run_bind, Sem.run_pure, Result.andThen_ok]
                  congr 2
                  split <;> omega)
                have HAIN : Hid (∀ W, Below wi.heap.size wi W → Calls Try.prog 20 #[(.slice aa na ca), (.agg #[.int .u8 k, .slice ia n ic])] W fun e w' => e = .returned (.int .i64 (CA : Int)) ∧ Below W.heap.size W w') := Lib.hid (fun W hW => by
                  rw [hCA.out]
                  exact in_calls _ las k x.i _ W (itemsL L) HAM.out x.li HXL2.out (HA25.out.below (HBi.out.trans (hW.mono HBi.out.size))) HKX.out (HITS.out.below hW) (by have := HAN.out; omega) HAI.out HXN.out)
                have HCIN : Hid (∀ W, Below wi.heap.size wi W → Calls Try.prog 20 #[(.slice ac nc cc), (.agg #[.int .u8 k, .slice ia n ic])] W fun e w' => e = .returned (.int .i64 (CC : Int)) ∧ Below W.heap.size W w') := Lib.hid (fun W hW => by
                  rw [hCC.out]
                  exact in_calls _ cs k x.i _ W (itemsL M) HCM.out x.li HXL2.out (HC25.out.below (HBi.out.trans (hW.mono HBi.out.size))) HKX.out (HITS.out.below hW) (by have := HCN.out; omega) HCI.out HXN.out)
                have HUIN : Hid (∀ W, Below wi.heap.size wi W → Calls Try.prog 20 #[(.slice (some ⟨b, off, none⟩) nu cu), (.agg #[.int .u8 k, .slice ia n ic])] W fun e w' => e = .returned (.int .i64 (CU : Int)) ∧ Below W.heap.size W w') := Lib.hid (fun W hW => by
                  rw [hCU.out]
                  exact in_calls _ us k x.i _ W (itemsL QL) HUM.out x.li HXL2.out (HU25.out.below (HBi.out.trans (hW.mono HBi.out.size))) HKX.out (HITS.out.below hW) (by have := HUL.out; have := HNU.out; omega) HUI.out HXN.out)
                clear hrow hx hxv hm hits HRX0
                go_wp2_with fail
                refine' wp_region_grows (by kernel_rfl) (fun w' => Hid (Below wi.heap.size wi w')) [isV (.slice aa na ca), isV (.slice (some ⟨b, off, none⟩) nu cu), isV (.int .i64 (j : Int)), isV (.pointer (some ⟨b, off + j * 2, none⟩)), isV (.agg #[.int .u8 k, .slice ia n ic]), isV (.int .i64 (CA : Int)), isV (.slice ac nc cc), isV (.slice (some ⟨b, off, none⟩) nu cu), isV (.int .i64 (j : Int)), isV (.pointer (some ⟨b, off + j * 2, none⟩)), isV (.agg #[.int .u8 k, .slice ia n ic]), isV (.int .i64 (CC : Int)), isV (.int .i64 ((CA : Int) + (CC : Int))), isV (.bool false), isV (.bool false), isV (.slice (some ⟨b, off, none⟩) nu cu), isV (.slice (some ⟨b, off, none⟩) nu cu), isV (.int .i64 (j : Int)), isV (.pointer (some ⟨b, off + j * 2, none⟩)), isV (.agg #[.int .u8 k, .slice ia n ic]), isV (.int .i64 (CU : Int)), isV (.slice aa na ca), isV (.slice (some ⟨b, off, none⟩) nu cu), isV (.int .i64 (j : Int)), isV (.pointer (some ⟨b, off + j * 2, none⟩)), isV (.agg #[.int .u8 k, .slice ia n ic]), isV (.int .i64 (CA : Int)), isV (.int .i64 (CU : Int)), isV (.bool false), isV (.bool false)] 212 [[], [], [], [(1, some 169), (2, some 170)], [(3, some 171)], [(0, some 168), (4, some 172)], [], [], [], [(7, some 175), (8, some 176)], [(9, some 177)], [(6, some 174), (10, some 178)], [(5, some 173), (11, some 179)], [(12, some 180)], [(13, some 181)], [(14, some 182)], [(14, some 182)], [(14, some 182)], [(16, some 184), (17, some 185), (14, some 182)], [(18, some 186), (14, some 182)], [(15, some 183), (19, some 187), (14, some 182)], [(14, some 182)], [(14, some 182)], [(14, some 182)], [(22, some 190), (23, some 191), (14, some 182)], [(24, some 192), (14, some 182)], [(21, some 189), (25, some 193), (14, some 182)], [(26, some 194), (14, some 182)], [(20, some 188), (27, some 195), (14, some 182)], [(14, some 182), (28, some 196)]] [(0, some 168), (1, some 169), (2, some 170), (3, some 171), (4, some 172), (5, some 173), (6, some 174), (7, some 175), (8, some 176), (9, some 177), (10, some 178), (11, some 179), (12, some 180), (13, some 181), (14, some 182), (15, some 183), (16, some 184), (17, some 185), (18, some 186), (19, some 187), (20, some 188), (21, some 189), (22, some 190), (23, some 191), (24, some 192), (25, some 193), (26, some 194), (27, some 195), (28, some 196), (29, some 197)] rfl (by kernel_rfl) ⟨fun _ _ _ _ h => h, fun _ _ _ _ h => h, fun _ _ _ _ h => h, fun _ _ _ _ h => h, fun _ _ _ _ h => h, fun _ _ _ _ h => h, fun _ _ _ _ h => h, fun _ _ _ _ h => h, fun _ _ _ _ h => h, fun _ _ _ _ h => h, fun _ _ _ _ h => h, fun _ _ _ _ h => h, fun _ _ _ _ h => h, fun _ _ _ _ h => h, fun _ _ _ _ h => h, fun _ _ _ _ h => h, fun _ _ _ _ h => h, fun _ _ _ _ h => h, fun _ _ _ _ h => h, fun _ _ _ _ h => h, fun _ _ _ _ h => h, fun _ _ _ _ h => h, fun _ _ _ _ h => h, fun _ _ _ _ h => h, fun _ _ _ _ h => h, fun _ _ _ _ h => h, fun _ _ _ _ h => h, fun _ _ _ _ h => h, fun _ _ _ _ h => h, fun _ _ _ _ h => h, trivial⟩ (fun _ a a' _ e h => by cases a; cases a'; cases e; exact h) ?hS ?hsteps ?hend
                case hS => exact fun w' hg => Lib.hid ((Below.refl _ _).drew.trans hg)
                case hsteps =>
                  refine ⟨?_, ?_, ?_, ?_, ?_, ?_, ?_, ?_, ?_, ?_, ?_, ?_, ?_, ?_, ?_, ?_, ?_, ?_, ?_, ?_, ?_, ?_, ?_, ?_, ?_, ?_, ?_, ?_, ?_, ?_, trivial⟩
                  · intro w' hs
                    simp only [AllV, rgPut]
                    clear hs
                    refine OpOk.run ?_ (fun K hK => ?_)
                    · rfl
                    go_simp
                    refine hK.out _ _ (Grows.refl _) ?_
                    exact rfl
                  · intro w' hs
                    simp only [AllV, rgPut]
                    clear hs
                    refine OpOk.run ?_ (fun K hK => ?_)
                    · rfl
                    go_simp
                    refine hK.out _ _ (Grows.refl _) ?_
                    exact rfl
                  · intro w' hs
                    simp only [AllV, rgPut]
                    clear hs
                    refine OpOk.run ?_ (fun K hK => ?_)
                    · rfl
                    go_simp
                    refine hK.out _ _ (Grows.refl _) ?_
                    exact rfl
                  · intro w' hs
                    simp only [AllV, rdP, isV, forall_eq, rgPut, Act.put, List.setIfInBounds_toArray, List.set_cons_zero, List.set_cons_succ]
                    clear hs
                    refine OpOk.run ?_ (fun K hK => ?_)
                    · rfl
                    go_simp
                    refine hK.out _ _ (Grows.refl _) ?_
                    exact rfl
                  · intro w' hs
                    simp only [AllV, rdP, isV, forall_eq, rgPut, Act.put, List.setIfInBounds_toArray, List.set_cons_zero, List.set_cons_succ]
                    refine OpOk.run ?_ (fun K hK => ?_)
                    · rfl
                    refine wp_load_mid 39 _ rfl b (off + j * 2) rfl [.int .u8 k, .slice ia n ic] _ (range_below HRX.out hs.out) Try.underlying39 rfl (by kernel_rfl) ?_
                    refine hK.out _ _ (Grows.refl _) ?_
                    exact rfl
                  · intro w' hs
                    simp only [AllV, rdP, isV, forall_eq, rgPut, Act.put, List.setIfInBounds_toArray, List.set_cons_zero, List.set_cons_succ]
                    refine OpOk.run ?_ (fun K hK => ?_)
                    · rfl
                    go_simp
                    go_at_call 20
                    refine (HAIN.out w' hs.out).mono ?_
                    rintro e w1 ⟨rfl, hb⟩
                    refine hK.out _ _ hb ?_
                    exact rfl
                  · intro w' hs
                    simp only [AllV, rgPut]
                    clear hs
                    refine OpOk.run ?_ (fun K hK => ?_)
                    · rfl
                    go_simp
                    refine hK.out _ _ (Grows.refl _) ?_
                    exact rfl
                  · intro w' hs
                    simp only [AllV, rgPut]
                    clear hs
                    refine OpOk.run ?_ (fun K hK => ?_)
                    · rfl
                    go_simp
                    refine hK.out _ _ (Grows.refl _) ?_
                    exact rfl
                  · intro w' hs
                    simp only [AllV, rgPut]
                    clear hs
                    refine OpOk.run ?_ (fun K hK => ?_)
                    · rfl
                    go_simp
                    refine hK.out _ _ (Grows.refl _) ?_
                    exact rfl
                  · intro w' hs
                    simp only [AllV, rdP, isV, forall_eq, rgPut, Act.put, List.setIfInBounds_toArray, List.set_cons_zero, List.set_cons_succ]
                    clear hs
                    refine OpOk.run ?_ (fun K hK => ?_)
                    · rfl
                    go_simp
                    refine hK.out _ _ (Grows.refl _) ?_
                    exact rfl
                  · intro w' hs
                    simp only [AllV, rdP, isV, forall_eq, rgPut, Act.put, List.setIfInBounds_toArray, List.set_cons_zero, List.set_cons_succ]
                    refine OpOk.run ?_ (fun K hK => ?_)
                    · rfl
                    refine wp_load_mid 39 _ rfl b (off + j * 2) rfl [.int .u8 k, .slice ia n ic] _ (range_below HRX.out hs.out) Try.underlying39 rfl (by kernel_rfl) ?_
                    refine hK.out _ _ (Grows.refl _) ?_
                    exact rfl
                  · intro w' hs
                    simp only [AllV, rdP, isV, forall_eq, rgPut, Act.put, List.setIfInBounds_toArray, List.set_cons_zero, List.set_cons_succ]
                    refine OpOk.run ?_ (fun K hK => ?_)
                    · rfl
                    go_simp
                    go_at_call 20
                    refine (HCIN.out w' hs.out).mono ?_
                    rintro e w1 ⟨rfl, hb⟩
                    refine hK.out _ _ hb ?_
                    exact rfl
                  · intro w' hs
                    simp only [AllV, rdP, isV, forall_eq, rgPut, Act.put, List.setIfInBounds_toArray, List.set_cons_zero, List.set_cons_succ]
                    have hwr : IntKind.i64.wrap ((CA : Int) + (CC : Int)) = (CA : Int) + (CC : Int) := IntWalk.i64_in _ (by have := HCAB.out; have := HCCB.out; omega)
                    clear hs
                    refine OpOk.run ?_ (fun K hK => ?_)
                    · rfl
                    go_simp
                    refine hK.out _ _ (Grows.refl _) ?_
                    exact rfl
                  · intro w' hs
                    simp only [AllV, rdP, isV, forall_eq, rgPut, Act.put, List.setIfInBounds_toArray, List.set_cons_zero, List.set_cons_succ]
                    have hz : ((CA : Int) + (CC : Int) == 0) = false := HZ0.out
                    clear hs
                    refine OpOk.run ?_ (fun K hK => ?_)
                    · rfl
                    go_simp
                    refine hK.out _ _ (Grows.refl _) ?_
                    exact rfl
                  · intro w' hs
                    simp only [AllV, rdP, isV, forall_eq, rgPut, Act.put, List.setIfInBounds_toArray, List.set_cons_zero, List.set_cons_succ]
                    clear hs
                    refine OpOk.run ?_ (fun K hK => ?_)
                    · rfl
                    go_simp
                    refine hK.out _ _ (Grows.refl _) ?_
                    exact rfl
                  · intro w' hs
                    simp only [AllV, rdP, isV, forall_eq, rgPut, Act.put, List.setIfInBounds_toArray, List.set_cons_zero, List.set_cons_succ]
                    clear hs
                    refine OpOk.run ?_ (fun K hK => ?_)
                    · rfl
                    go_simp
                    refine hK.out _ _ (Grows.refl _) ?_
                    exact rfl
                  · intro w' hs
                    simp only [AllV, rdP, isV, forall_eq, rgPut, Act.put, List.setIfInBounds_toArray, List.set_cons_zero, List.set_cons_succ]
                    clear hs
                    refine OpOk.run ?_ (fun K hK => ?_)
                    · rfl
                    go_simp
                    refine hK.out _ _ (Grows.refl _) ?_
                    exact rfl
                  · intro w' hs
                    simp only [AllV, rdP, isV, forall_eq, rgPut, Act.put, List.setIfInBounds_toArray, List.set_cons_zero, List.set_cons_succ]
                    clear hs
                    refine OpOk.run ?_ (fun K hK => ?_)
                    · rfl
                    go_simp
                    refine hK.out _ _ (Grows.refl _) ?_
                    exact rfl
                  · intro w' hs
                    simp only [AllV, rdP, isV, forall_eq, rgPut, Act.put, List.setIfInBounds_toArray, List.set_cons_zero, List.set_cons_succ]
                    clear hs
                    refine OpOk.run ?_ (fun K hK => ?_)
                    · rfl
                    go_simp
                    refine hK.out _ _ (Grows.refl _) ?_
                    exact rfl
                  · intro w' hs
                    simp only [AllV, rdP, isV, forall_eq, rgPut, Act.put, List.setIfInBounds_toArray, List.set_cons_zero, List.set_cons_succ]
                    refine OpOk.run ?_ (fun K hK => ?_)
                    · rfl
                    refine wp_load_mid 39 _ rfl b (off + j * 2) rfl [.int .u8 k, .slice ia n ic] _ (range_below HRX.out hs.out) Try.underlying39 rfl (by kernel_rfl) ?_
                    refine hK.out _ _ (Grows.refl _) ?_
                    exact rfl
                  · intro w' hs
                    simp only [AllV, rdP, isV, forall_eq, rgPut, Act.put, List.setIfInBounds_toArray, List.set_cons_zero, List.set_cons_succ]
                    refine OpOk.run ?_ (fun K hK => ?_)
                    · rfl
                    go_simp
                    go_at_call 20
                    refine (HUIN.out w' hs.out).mono ?_
                    rintro e w1 ⟨rfl, hb⟩
                    refine hK.out _ _ hb ?_
                    exact rfl
                  · intro w' hs
                    simp only [AllV, rdP, isV, forall_eq, rgPut, Act.put, List.setIfInBounds_toArray, List.set_cons_zero, List.set_cons_succ]
                    clear hs
                    refine OpOk.run ?_ (fun K hK => ?_)
                    · rfl
                    go_simp
                    refine hK.out _ _ (Grows.refl _) ?_
                    exact rfl
                  · intro w' hs
                    simp only [AllV, rdP, isV, forall_eq, rgPut, Act.put, List.setIfInBounds_toArray, List.set_cons_zero, List.set_cons_succ]
                    clear hs
                    refine OpOk.run ?_ (fun K hK => ?_)
                    · rfl
                    go_simp
                    refine hK.out _ _ (Grows.refl _) ?_
                    exact rfl
                  · intro w' hs
                    simp only [AllV, rdP, isV, forall_eq, rgPut, Act.put, List.setIfInBounds_toArray, List.set_cons_zero, List.set_cons_succ]
                    clear hs
                    refine OpOk.run ?_ (fun K hK => ?_)
                    · rfl
                    go_simp
                    refine hK.out _ _ (Grows.refl _) ?_
                    exact rfl
                  · intro w' hs
                    simp only [AllV, rdP, isV, forall_eq, rgPut, Act.put, List.setIfInBounds_toArray, List.set_cons_zero, List.set_cons_succ]
                    clear hs
                    refine OpOk.run ?_ (fun K hK => ?_)
                    · rfl
                    go_simp
                    refine hK.out _ _ (Grows.refl _) ?_
                    exact rfl
                  · intro w' hs
                    simp only [AllV, rdP, isV, forall_eq, rgPut, Act.put, List.setIfInBounds_toArray, List.set_cons_zero, List.set_cons_succ]
                    refine OpOk.run ?_ (fun K hK => ?_)
                    · rfl
                    refine wp_load_mid 39 _ rfl b (off + j * 2) rfl [.int .u8 k, .slice ia n ic] _ (range_below HRX.out hs.out) Try.underlying39 rfl (by kernel_rfl) ?_
                    refine hK.out _ _ (Grows.refl _) ?_
                    exact rfl
                  · intro w' hs
                    simp only [AllV, rdP, isV, forall_eq, rgPut, Act.put, List.setIfInBounds_toArray, List.set_cons_zero, List.set_cons_succ]
                    refine OpOk.run ?_ (fun K hK => ?_)
                    · rfl
                    go_simp
                    go_at_call 20
                    refine (HAIN.out w' hs.out).mono ?_
                    rintro e w1 ⟨rfl, hb⟩
                    refine hK.out _ _ hb ?_
                    exact rfl
                  · intro w' hs
                    simp only [AllV, rdP, isV, forall_eq, rgPut, Act.put, List.setIfInBounds_toArray, List.set_cons_zero, List.set_cons_succ]
                    have hmx := HMX.out
                    clear hs
                    refine OpOk.run ?_ (fun K hK => ?_)
                    · rfl
                    go_simp
                    refine hK.out _ _ (Grows.refl _) ?_
                    exact rfl
                  · intro w' hs
                    simp only [AllV, rdP, isV, forall_eq, rgPut, Act.put, List.setIfInBounds_toArray, List.set_cons_zero, List.set_cons_succ]
                    clear hs
                    refine OpOk.run ?_ (fun K hK => ?_)
                    · rfl
                    go_simp
                    refine hK.out _ _ (Grows.refl _) ?_
                    exact rfl
                  · intro w' hs
                    simp only [AllV, rdP, isV, forall_eq, rgPut, Act.put, List.setIfInBounds_toArray, List.set_cons_zero, List.set_cons_succ]
                    clear hs
                    refine OpOk.run ?_ (fun K hK => ?_)
                    · rfl
                    go_simp
                    refine hK.out _ _ (Grows.refl _) ?_
                    exact rfl
                case hend =>
                  intro w' hs
                  simp only [AllV, rdP, isV, forall_eq, rgPut, Act.put, List.setIfInBounds_toArray, List.set_cons_zero, List.set_cons_succ]
                  have HB2 := Lib.hid (HBi.out.trans (hs.out.mono HBi.out.size))
                  clear hs
                  go_wp2
                  go_roundw
                  case rel => exact ⟨j + 1, HLT.out, by go_num, HB2⟩
                  case measure => have := HLT.out; simp [intOf]; omega
              · obtain rfl : nu = j := by omega
                have hdl : decide ((nu : Int) < (nu : Int)) = false := by simp
                clear hdl
                have hdl : decide ((nu : Int) < (nu : Int)) = false := by simp
                have HB26 := Lib.hid (HB25.out.trans (HBi.out.mono HB25.out.size))
                have HU26 := Lib.hid (HU25.out.below HBi.out)
                have HC26 := Lib.hid (HC25.out.below HBi.out)
                have hncs : nc = cs.length := by rw [HNC.out, ← HCM.out, List.length_map]
                have HNCS := Lib.hid hncs
                clear hncs
                go_wp2
                go_loopw [24] (fun i_ wr => ∃ j : Nat, j ≤ nc ∧ i_ = .int .i64 j ∧ Hid (Below wi.heap.size wi wr)) (fun i_ _ => nc - (intOf i_).toNat)
                case atStart => exact ⟨0, Nat.zero_le _, rfl, Lib.hid (Below.refl _ _)⟩
                case round =>
                  obtain ⟨j, hj, rfl, HBj⟩ := hrel
                  obtain ⟨wj, hwj⟩ : ∃ wj : World, wj = wr := ⟨_, rfl⟩
                  subst hwj
                  have HB27 := Lib.hid (HB26.out.trans (HBj.out.mono HB26.out.size))
                  by_cases hlt : j < nc
                  · obtain ⟨b, off, x, ia, n, ic, hx, ha, hrow, hxv, hm, hmc, hc, hits⟩ := HC26.out.item j (by rw [← HNCS.out]; exact hlt)
                    subst ha
                    have hdl2 : decide ((j : Int) < (nc : Int)) = true := by simp; omega
                    have HLT := Lib.hid hlt
                    have HKX := Lib.hid (HC26.out.kind x (List.mem_of_getElem? hx))
                    have HXN := Lib.hid (HCI.out x (List.mem_of_getElem? hx))
                    have HITS := Lib.hid (hits.below HBj.out)
                    have HRX0 : Hid (wj.rangeAt b (off + j * 2) [.int .u8 x.k, .slice ia n ic]) := Lib.hid (range_below hrow HBj.out)
                    have HMEM : Hid (x.li ∈ itemsL M) := Lib.hid (by rw [← HCM.out]; exact List.mem_map.2 ⟨x, List.mem_of_getElem? hx, rfl⟩)
                    have HLAW := Lib.hid (HBI.out.2.1 x.li HMEM.out)
                    obtain ⟨k, hk⟩ : ∃ k, Hid (k = x.k) := ⟨_, Lib.hid rfl⟩
                    rw [← hk.out] at HRX0 HKX
                    have HRX : Hid (wj.rangeAt b (off + j * 2) [.int .u8 k, .slice ia n ic]) := HRX0
                    have HXL2 : Hid (x.li = ⟨k, x.i.map ItV.it⟩) := Lib.hid (by rw [hk.out]; rfl)
                    obtain ⟨CU, hCU⟩ : ∃ c, Hid (c = cntL (itemsL QL) x.li) := ⟨_, Lib.hid rfl⟩
                    rw [← hCU.out] at HLAW
                    have hz0 : ((CU : Int) == 0) = false := by have := HLAW.out; simp; omega
                    have HUIN := Lib.hid (in_calls (.slice ua nu cu) us k x.i (.slice ia n ic) wj (itemsL QL) HUM.out x.li HXL2.out (HU26.out.below HBj.out) HKX.out HITS.out (by have := HUL.out; have := HNU.out; omega) HUI.out HXN.out)
                    rw [← hCU.out] at HUIN
                    clear hrow hx hxv hm hits HRX0
                    go_wp2_with (first
                      | ((with_reducible show wpList _ _ _ (⟨some 208, _, _, _, _, _⟩ :: _) _ _); refine wpList_load_mid rfl 39 _ rfl b (off + j * 2) rfl [.int .u8 k, .slice ia n ic] _ HRX.out Try.underlying39 rfl (by kernel_rfl) ?_)
                      | fail)
                    refine HUIN.out.mono ?_
                    rintro e w28 ⟨rfl, hb⟩
                    have HB28 := Lib.hid (HBj.out.trans (hb.mono HBj.out.size))
                    clear hb HUIN
                    go_wp2
                    go_roundw
                    case rel => exact ⟨j + 1, HLT.out, by go_num, HB28⟩
                    case measure => have := HLT.out; simp [intOf]; omega
                  · obtain rfl : nc = j := by omega
                    have hdl2 : decide ((nc : Int) < (nc : Int)) = false := by simp
                    go_wp2_with fail
                    refine (works_calls _).mono ?_
                    rintro e w99 ⟨rfl, hb⟩
                    have HB99 := Lib.hid (HB27.out.trans (hb.mono HB27.out.size))
                    clear hb
                    go_wp2
                    go_ret
                    exact ⟨rfl, HB99.out⟩
  case neg =>
    have heq : (ED == 0) = false := by simp [hE]
    clear hE
    have HBR := HB2
    clear HR2
    go_wp2_with fail
    refine (twins_form _ xs L _ hL.out (HV.out.below HBR.out) HS.out).mono ?_
    rintro e w10 ⟨a10, m10, c10, xs1, rfl, hm1, ho1, hb⟩
    have HB10 := Lib.hid (HBR.out.trans (hb.mono HBR.out.size))
    clear hb
    go_wp2_with fail
    refine (wr_form _ xs1 L X hX.out EX hEX.out _ hm1.out ho1.out.lis HS.out).mono ?_
    rintro e w11 ⟨a11, n11, c11, rfl, hn11, hl11, ho11, hb⟩
    have HB11 := Lib.hid (HB10.out.trans (hb.mono HB10.out.size))
    have HX11 := Lib.hid ho11.out.byt
    clear hb hm1 ho1 ho11
    go_wp2_with fail
    refine (twins_form _ ys M _ hM.out (HV2.out.below HB11.out) HS2.out).mono ?_
    rintro e w12 ⟨a12, m12, c12, ys1, rfl, hm1, ho1, hb⟩
    have HB12 := Lib.hid (HB11.out.trans (hb.mono HB11.out.size))
    have HX12 := Lib.hid (HX11.out.below hb)
    clear hb
    go_wp2_with fail
    refine (wr_form _ ys1 M Y hY.out EY hEY.out _ hm1.out ho1.out.lis HS2.out).mono ?_
    rintro e w13 ⟨a13, n13, c13, rfl, hn13, hl13, ho13, hb⟩
    have HB13 := Lib.hid (HB12.out.trans (hb.mono HB12.out.size))
    have HX13 := Lib.hid (HX12.out.below hb)
    have HY13 := Lib.hid ho13.out.byt
    clear hb hm1 ho1 ho13
    by_cases hx0 : EX = 0
    case neg =>
      have hne : (EX != 0) = true := by simp [hx0]
      clear hx0
      go_wp2_with fail
      refine (works_calls _).mono ?_
      rintro e w99 ⟨rfl, hb⟩
      have HB99 := Lib.hid (HB13.out.trans (hb.mono HB13.out.size))
      clear hb
      go_wp2
      go_ret
      exact ⟨rfl, HB99.out⟩
    case pos =>
      subst hx0
      by_cases hy0 : EY = 0
      case neg =>
        have hne : (EY != 0) = true := by simp [hy0]
        clear hy0
        go_wp2_with fail
        refine (works_calls _).mono ?_
        rintro e w99 ⟨rfl, hb⟩
        have HB99 := Lib.hid (HB13.out.trans (hb.mono HB13.out.size))
        clear hb
        go_wp2
        go_ret
        exact ⟨rfl, HB99.out⟩
      case pos =>
        subst hy0
        have HWL := Lib.hid (wrE_zero hEX.out.symm)
        have HWM := Lib.hid (wrE_zero hEY.out.symm)
        have HXE : Hid (X = lsW L) := Lib.hid (hX.out.trans HWL.out.2.2)
        have HYE : Hid (Y = lsW M) := Lib.hid (hY.out.trans HWM.out.2.2)
        have HOL : Hid (OwnO L) := Lib.hid (OwnO.of HV.out hL.out)
        have HOM : Hid (OwnO M) := Lib.hid (OwnO.of HV2.out hM.out)
        have HRB := Lib.hid (read_back HWL.out.1 HOL.out HWL.out.2.1)
        have HXL : Hid (X.length ≤ 65536) := hl11
        have HYL : Hid (Y.length ≤ 65536) := hl13
        go_wp2_with fail
        refine (rd_form (sgReadAll_calls _ X _ HX13.out (by have := HXL.out; omega)) L (by rw [HXE.out]; exact HRB.out.1.symm) 0 (by rw [HXE.out]; exact HRB.out.2.symm) 349525 (by have := HXL.out; omega)).mono ?_
        rintro e w14 ⟨a14, m14, c14, ps, rfl, ho, hm, hN14, hm14, hb⟩
        have HB14 := Lib.hid (HB13.out.trans (hb.mono HB13.out.size))
        have HP14 := Lib.hid ho.lis
        have HPM := Lib.hid hm
        have HPN := Lib.hid hN14
        have HX14 := Lib.hid (HX13.out.below hb)
        have HY14 := Lib.hid (HY13.out.below hb)
        clear ho hm hN14 hb
        go_wp2_with fail
        refine (sameLists_form _ _ ps xs L L true _ (decide_eq_true rfl) HPM.out hL.out HP14.out (HV.out.below HB14.out) HPN.out (HS.out.lisN hL.out) (by decide)).mono ?_
        rintro e w15 ⟨rfl, hb⟩
        have HB15 := Lib.hid (HB14.out.trans (hb.mono HB14.out.size))
        have HX15 := Lib.hid (HX14.out.below hb)
        have HY15 := Lib.hid (HY14.out.below hb)
        clear hb HP14 HPM HPN
        go_wp2_with fail
        refine (items_calls _ xs _ (HV.out.below HB15.out) (by have := (HS.out.xs hL.out).1; omega) (by rw [hL.out]; have := HIL.out; omega)).mono ?_
        rintro e w16 ⟨aa, na, ca, las, rfl, hma, hla, hb⟩
        have HB16 := Lib.hid (HB15.out.trans (hb.mono HB15.out.size))
        have HX16 := Lib.hid (HX15.out.below hb)
        have HY16 := Lib.hid (HY15.out.below hb)
        have HAM : Hid (las.map LiV.li = itemsL L) := Lib.hid (by rw [← hL.out]; exact hma.out)
        clear hb hma
        go_wp2_with fail
        refine (items_calls _ ys _ (HV2.out.below HB16.out) (by have := (HS2.out.xs hM.out).1; omega) (by rw [hM.out]; have := HIM.out; omega)).mono ?_
        rintro e w17 ⟨ac, nc, cc, cs, rfl, hmc, hlc, hb⟩
        have HB17 := Lib.hid (HB16.out.trans (hb.mono HB16.out.size))
        have HX17 := Lib.hid (HX16.out.below hb)
        have HY17 := Lib.hid (HY16.out.below hb)
        have HCM : Hid (cs.map LiV.li = itemsL M) := Lib.hid (by rw [← hM.out]; exact hmc.out)
        have HA17 := Lib.hid (hla.out.below hb)
        have HC17 := hlc
        clear hb hmc hla
        have HNA : Hid (na = (itemsL L).length) := Lib.hid (by
          obtain ⟨_, _, e, _⟩ := HA17.out.open
          simp only [Value.slice.injEq] at e
          rw [e.2.1, ← HAM.out, List.length_map])
        have HNC : Hid (nc = (itemsL M).length) := Lib.hid (by
          obtain ⟨_, _, e, _⟩ := HC17.out.open
          simp only [Value.slice.injEq] at e
          rw [e.2.1, ← HCM.out, List.length_map])
        have hnab : na ≤ 100000000 := by have := HNA.out; have := HIL.out; omega
        have hncb : nc ≤ 100000000 := by have := HNC.out; have := HIM.out; omega
        have hnxb : n11 ≤ 65536 := by have := hn11.out; have := HXL.out; omega
        have hnyb : n13 ≤ 65536 := by have := hn13.out; have := HYL.out; omega
        by_cases h60 : 60 < na + nc
        case pos =>
          have hd60 : decide ((60 : Int) < (na : Int) + (nc : Int)) = true := by simp; omega
          go_wp2_with fail
          refine (works_calls _).mono ?_
          rintro e w99 ⟨rfl, hb⟩
          have HB99 := Lib.hid (HB17.out.trans (hb.mono HB17.out.size))
          clear hb
          go_wp2
          go_ret
          exact ⟨rfl, HB99.out⟩
        case neg =>
          have hd60 : decide ((60 : Int) < (na : Int) + (nc : Int)) = false := by simp; omega
          by_cases h64 : 65536 < n11 + n13
          case pos =>
            have hd64 : decide ((65536 : Int) < (n11 : Int) + (n13 : Int)) = true := by simp; omega
            go_wp2_with fail
            refine (works_calls _).mono ?_
            rintro e w99 ⟨rfl, hb⟩
            have HB99 := Lib.hid (HB17.out.trans (hb.mono HB17.out.size))
            clear hb
            go_wp2
            go_ret
            exact ⟨rfl, HB99.out⟩
          case neg =>
            have hd64 : decide ((65536 : Int) < (n11 : Int) + (n13 : Int)) = false := by simp; omega
            have HSUM : Hid ((lsW L).length + (lsW M).length ≤ 65536) := Lib.hid (by rw [← HXE.out, ← HYE.out]; have := hn11.out; have := hn13.out; omega)
            have H60 : Hid (na + nc ≤ 60) := Lib.hid (by omega)
            obtain ⟨QL, hQ⟩ : ∃ Q, Hid (Q = mrgA L M M.length) := ⟨_, Lib.hid rfl⟩
            obtain ⟨Z, hZ⟩ : ∃ Z, Hid (Z = lsW QL) := ⟨_, Lib.hid rfl⟩
            have HSB := Lib.hid (self_back HWL.out.1 HOL.out HWL.out.2.1)
            have HMB := Lib.hid (mrg_back HWL.out.1 HOL.out HWM.out.1 HOM.out HSUM.out)
            have HMH := Lib.hid (mrg_head (L := L) (M := M))
            have HBI := Lib.hid (back_items L M)
            rw [← hQ.out] at HMB HMH HBI
            rw [← hZ.out] at HMB HMH
            rw [← HXE.out] at HSB HMB HMH
            rw [← HYE.out] at HMB
            go_wp2_with fail
            refine (twin_calls _ X _ HX17.out (by have := HXL.out; omega)).mono ?_
            rintro e w18 ⟨u18, rfl, ho, hb⟩
            have HB18 := Lib.hid (HB17.out.trans (hb.mono HB17.out.size))
            have HX18 := Lib.hid (HX17.out.below hb)
            have HY18 := Lib.hid (HY17.out.below hb)
            have HA18 := Lib.hid (HA17.out.below hb)
            have HC18 := Lib.hid (HC17.out.below hb)
            have HT18 := Lib.hid ho.byt
            clear hb ho
            go_wp2_with fail
            refine (twin_calls _ X _ HX18.out (by have := HXL.out; omega)).mono ?_
            rintro e w19 ⟨u19, rfl, ho, hb⟩
            have HB19 := Lib.hid (HB18.out.trans (hb.mono HB18.out.size))
            have HX19 := Lib.hid (HX18.out.below hb)
            have HY19 := Lib.hid (HY18.out.below hb)
            have HA19 := Lib.hid (HA18.out.below hb)
            have HC19 := Lib.hid (HC18.out.below hb)
            have HT19 := Lib.hid (HT18.out.below hb)
            have HS19 := Lib.hid ho.byt
            clear hb ho
            go_wp2_with fail
            refine (mrg_of (merge_calls _ _ X X _ HT19.out HS19.out (by have := HXL.out; omega) (by have := HXL.out; omega)) X HSB.out.2.symm 0 HSB.out.1.symm).mono ?_
            rintro e w20 ⟨x20, n20, c20, rfl, ho, hb⟩
            have HB20 := Lib.hid (HB19.out.trans (hb.mono HB19.out.size))
            have HX20 := Lib.hid (HX19.out.below hb)
            have HY20 := Lib.hid (HY19.out.below hb)
            have HA20 := Lib.hid (HA19.out.below hb)
            have HC20 := Lib.hid (HC19.out.below hb)
            have HM20 := Lib.hid ho.out.byt
            clear hb ho HT18 HT19 HS19
            go_wp2_with fail
            refine (twin_calls _ X _ HX20.out (by have := HXL.out; omega)).mono ?_
            rintro e w21 ⟨u21, rfl, ho, hb⟩
            have HB21 := Lib.hid (HB20.out.trans (hb.mono HB20.out.size))
            have HX21 := Lib.hid (HX20.out.below hb)
            have HY21 := Lib.hid (HY20.out.below hb)
            have HA21 := Lib.hid (HA20.out.below hb)
            have HC21 := Lib.hid (HC20.out.below hb)
            have HM21 := Lib.hid (HM20.out.below hb)
            have HT21 := Lib.hid ho.byt
            clear hb ho
            go_wp2_with fail
            refine (twin_calls _ Y _ HY21.out (by have := HYL.out; omega)).mono ?_
            rintro e w22 ⟨u22, rfl, ho, hb⟩
            have HB22 := Lib.hid (HB21.out.trans (hb.mono HB21.out.size))
            have HX22 := Lib.hid (HX21.out.below hb)
            have HA22 := Lib.hid (HA21.out.below hb)
            have HC22 := Lib.hid (HC21.out.below hb)
            have HM22 := Lib.hid (HM21.out.below hb)
            have HT22 := Lib.hid (HT21.out.below hb)
            have HS22 := Lib.hid ho.byt
            clear hb ho
            go_wp2_with fail
            refine (mrg_of (merge_calls _ _ X Y _ HT22.out HS22.out (by have := HXL.out; omega) (by have := HYL.out; omega)) Z HMB.out.2.1.symm 0 HMB.out.1.symm).mono ?_
            rintro e w23 ⟨x23, n23, c23, rfl, ho, hb⟩
            have HB23 := Lib.hid (HB22.out.trans (hb.mono HB22.out.size))
            have HX23 := Lib.hid (HX22.out.below hb)
            have HA23 := Lib.hid (HA22.out.below hb)
            have HC23 := Lib.hid (HC22.out.below hb)
            have HM23 := Lib.hid (HM22.out.below hb)
            have HZ23 := Lib.hid ho.out.byt
            have HN23 : Hid (n23 = Z.length) := Lib.hid (by
              obtain ⟨_, _, e, _⟩ := ho.out.byt.open
              simp only [Value.slice.injEq] at e
              exact e.2.1)
            have HZL : Hid (Z.length ≤ 65536) := Lib.hid HMB.out.2.2.2.2
            have HQB := Lib.hid (read_back HMB.out.2.2.1 HMB.out.2.2.2.1 (by rw [← hZ.out]; exact HZL.out))
            rw [← hZ.out] at HQB
            clear hb ho HT21 HT22 HS22
            go_wp2_with fail
            refine (same_form X X true (decide_eq_true rfl) _ _ _ HM23.out HX23.out).mono ?_
            rintro e w' ⟨rfl, rfl⟩
            go_wp2_with fail
            refine (rd_form (sgReadAll_calls _ Z _ HZ23.out (by have := HZL.out; omega)) QL HQB.out.1.symm 0 HQB.out.2.symm 349525 (by have := HZL.out; omega)).mono ?_
            rintro e w24 ⟨a24, m24, c24, qs, rfl, ho, hm, hN24, hm24, hb⟩
            have HB24 := Lib.hid (HB23.out.trans (hb.mono HB23.out.size))
            have HX24 := Lib.hid (HX23.out.below hb)
            have HA24 := Lib.hid (HA23.out.below hb)
            have HC24 := Lib.hid (HC23.out.below hb)
            have HZ24 := Lib.hid (HZ23.out.below hb)
            have HQ24 := Lib.hid ho.lis
            have HQM := Lib.hid hm
            have HQN := Lib.hid hN24
            clear hb ho hm hN24
            have hle : n11 ≤ n23 := by have := HMH.out.1; have := HN23.out; have := hn11.out; omega
            have hle2 : decide (n23 < n11) = false := by simp; omega
            obtain ⟨yk, hrunk, hyk⟩ := byt_cutn HZ24.out HN23.out n11 (by have := HMH.out.1; have := HN23.out; have := hn11.out; omega)
            have HYK : Hid (Byt w24 (.slice yk n11 c23) X) := Lib.hid (by
              rw [hn11.out, HMH.out.2] at hyk
              rw [hn11.out]
              exact hyk)
            clear hyk
            go_wp2_with fail
            refine (same_form X X true (decide_eq_true rfl) _ _ _ HYK.out HX24.out).mono ?_
            rintro e w' ⟨rfl, rfl⟩
            go_wp2_with fail
            clear hrunk hle hle2
            refine (items_calls _ qs _ HQ24.out (by have := HQN.out.1; omega) (by rw [HQM.out]; have := HBI.out.2.2; have := HNA.out; have := HNC.out; have := H60.out; omega)).mono ?_
            rintro e w25 ⟨ua, nu, cu, us, rfl, hmu, hlu, hb⟩
            have HB25 := Lib.hid (HB24.out.trans (hb.mono HB24.out.size))
            have HA25 := Lib.hid (HA24.out.below hb)
            have HC25 := Lib.hid (HC24.out.below hb)
            have HU25 := hlu
            have HUM : Hid (us.map LiV.li = itemsL QL) := Lib.hid (by rw [← HQM.out]; exact hmu.out)
            have HNU : Hid (nu = us.length) := Lib.hid (by
              obtain ⟨_, _, e, _⟩ := HU25.out.open
              simp only [Value.slice.injEq] at e
              exact e.2.1)
            have HUL : Hid (nu ≤ 60) := Lib.hid (by
              have h := congrArg List.length HUM.out
              rw [List.length_map] at h
              have := HBI.out.2.2
              have := HNA.out
              have := HNC.out
              have := H60.out
              have := HNU.out
              omega)
            have HAI : Hid (∀ u ∈ las, u.i.length ≤ 1000000000) := Lib.hid (one_item HAM.out)
            have HCI : Hid (∀ u ∈ cs, u.i.length ≤ 1000000000) := Lib.hid (one_item HCM.out)
            have HUI : Hid (∀ u ∈ us, u.i.length ≤ 1000000000) := Lib.hid (one_item HUM.out)
            have HAN : Hid (las.length ≤ 60) := Lib.hid (by
              have h := congrArg List.length HAM.out
              rw [List.length_map] at h
              have := HNA.out
              have := H60.out
              omega)
            have HCN : Hid (cs.length ≤ 60) := Lib.hid (by
              have h := congrArg List.length HCM.out
              rw [List.length_map] at h
              have := HNC.out
              have := H60.out
              omega)
            clear hb hmu
            have hul := HUL.out
            go_wp2
            go_loopw [23] (fun i_ wr => ∃ j : Nat, j ≤ nu ∧ i_ = .int .i64 j ∧ Hid (Below w25.heap.size w25 wr)) (fun i_ _ => nu - (intOf i_).toNat)
            case atStart => exact ⟨0, Nat.zero_le _, rfl, Lib.hid (Below.refl _ _)⟩
            case round =>
              obtain ⟨j, hj, rfl, HBi⟩ := hrel
              obtain ⟨wi, hwi⟩ : ∃ wi : World, wi = wr := ⟨_, rfl⟩
              subst hwi
              by_cases hlt : j < nu
              · obtain ⟨b, off, x, ia, n, ic, hx, ha, hrow, hxv, hm, hmc, hc, hits⟩ := HU25.out.item j (by rw [← HNU.out]; exact hlt)
                subst ha
                have hdl : decide ((j : Int) < (nu : Int)) = true := by simp; omega
                have HLT := Lib.hid hlt
                have HKX := Lib.hid (HU25.out.kind x (List.mem_of_getElem? hx))
                have HXN := Lib.hid (HUI.out x (List.mem_of_getElem? hx))
                have HITS := Lib.hid (hits.below HBi.out)
                have HRX0 : Hid (wi.rangeAt b (off + j * 2) [.int .u8 x.k, .slice ia n ic]) := Lib.hid (range_below hrow HBi.out)
                have HMEM : Hid (x.li ∈ itemsL QL) := Lib.hid (by rw [← HUM.out]; exact List.mem_map.2 ⟨x, List.mem_of_getElem? hx, rfl⟩)
                have HLAW := Lib.hid (HBI.out.1 x.li HMEM.out)
                obtain ⟨k, hk⟩ : ∃ k, Hid (k = x.k) := ⟨_, Lib.hid rfl⟩
                rw [← hk.out] at HRX0 HKX
                have HRX : Hid (wi.rangeAt b (off + j * 2) [.int .u8 k, .slice ia n ic]) := HRX0
                have HXL2 : Hid (x.li = ⟨k, x.i.map ItV.it⟩) := Lib.hid (by rw [hk.out]; rfl)
                obtain ⟨CA, hCA⟩ : ∃ c, Hid (c = cntL (itemsL L) x.li) := ⟨_, Lib.hid rfl⟩
                obtain ⟨CC, hCC⟩ : ∃ c, Hid (c = cntL (itemsL M) x.li) := ⟨_, Lib.hid rfl⟩
                obtain ⟨CU, hCU⟩ : ∃ c, Hid (c = cntL (itemsL QL) x.li) := ⟨_, Lib.hid rfl⟩
                rw [← hCA.out, ← hCC.out, ← hCU.out] at HLAW
                have HCAB : Hid (CA ≤ 1000) := Lib.hid (by have := cntL_le (itemsL L) x.li; rw [← hCA.out, ← HNA.out] at this; have := H60.out; omega)
                have HCCB : Hid (CC ≤ 1000) := Lib.hid (by have := cntL_le (itemsL M) x.li; rw [← hCC.out, ← HNC.out] at this; have := H60.out; omega)
                have HZ0 : Hid (((CA : Int) + (CC : Int) == 0) = false) := Lib.hid (by have := HLAW.out.1; simp; omega)
                have HMX : Hid (∀ W : World, (Builtin.max_ #[3, 3] 3 #[.int .i64 (CA : Int), .int .i64 1]).run Try.prog W = .ok (.int .i64 (CU : Int)) W) := Lib.hid (fun W => by
                  have h := HLAW.out.2
                  simp only [Builtin.max_, Builtin.max2, List.foldlM_cons, List.foldlM_nil, Sem.run_bind, Sem.run_pure, Result.andThen_ok]
                  congr 2
                  split <;> omega)
                have HAIN : Hid (∀ W, Below wi.heap.size wi W → Calls Try.prog 20 #[(.slice aa na ca), (.agg #[.int .u8 k, .slice ia n ic])] W fun e w' => e = .returned (.int .i64 (CA : Int)) ∧ Below W.heap.size W w') := Lib.hid (fun W hW => by
                  rw [hCA.out]
                  exact in_calls _ las k x.i _ W (itemsL L) HAM.out x.li HXL2.out (HA25.out.below (HBi.out.trans (hW.mono HBi.out.size))) HKX.out (HITS.out.below hW) (by have := HAN.out; omega) HAI.out HXN.out)
                have HCIN : Hid (∀ W, Below wi.heap.size wi W → Calls Try.prog 20 #[(.slice ac nc cc), (.agg #[.int .u8 k, .slice ia n ic])] W fun e w' => e = .returned (.int .i64 (CC : Int)) ∧ Below W.heap.size W w') := Lib.hid (fun W hW => by
                  rw [hCC.out]
                  exact in_calls _ cs k x.i _ W (itemsL M) HCM.out x.li HXL2.out (HC25.out.below (HBi.out.trans (hW.mono HBi.out.size))) HKX.out (HITS.out.below hW) (by have := HCN.out; omega) HCI.out HXN.out)
                have HUIN : Hid (∀ W, Below wi.heap.size wi W → Calls Try.prog 20 #[(.slice (some ⟨b, off, none⟩) nu cu), (.agg #[.int .u8 k, .slice ia n ic])] W fun e w' => e = .returned (.int .i64 (CU : Int)) ∧ Below W.heap.size W w') := Lib.hid (fun W hW => by
                  rw [hCU.out]
                  exact in_calls _ us k x.i _ W (itemsL QL) HUM.out x.li HXL2.out (HU25.out.below (HBi.out.trans (hW.mono HBi.out.size))) HKX.out (HITS.out.below hW) (by have := HUL.out; have := HNU.out; omega) HUI.out HXN.out)
                clear hrow hx hxv hm hits HRX0
                go_wp2_with fail
                refine' wp_region_grows (by kernel_rfl) (fun w' => Hid (Below wi.heap.size wi w')) [isV (.slice aa na ca), isV (.slice (some ⟨b, off, none⟩) nu cu), isV (.int .i64 (j : Int)), isV (.pointer (some ⟨b, off + j * 2, none⟩)), isV (.agg #[.int .u8 k, .slice ia n ic]), isV (.int .i64 (CA : Int)), isV (.slice ac nc cc), isV (.slice (some ⟨b, off, none⟩) nu cu), isV (.int .i64 (j : Int)), isV (.pointer (some ⟨b, off + j * 2, none⟩)), isV (.agg #[.int .u8 k, .slice ia n ic]), isV (.int .i64 (CC : Int)), isV (.int .i64 ((CA : Int) + (CC : Int))), isV (.bool false), isV (.bool false), isV (.slice (some ⟨b, off, none⟩) nu cu), isV (.slice (some ⟨b, off, none⟩) nu cu), isV (.int .i64 (j : Int)), isV (.pointer (some ⟨b, off + j * 2, none⟩)), isV (.agg #[.int .u8 k, .slice ia n ic]), isV (.int .i64 (CU : Int)), isV (.slice aa na ca), isV (.slice (some ⟨b, off, none⟩) nu cu), isV (.int .i64 (j : Int)), isV (.pointer (some ⟨b, off + j * 2, none⟩)), isV (.agg #[.int .u8 k, .slice ia n ic]), isV (.int .i64 (CA : Int)), isV (.int .i64 (CU : Int)), isV (.bool false), isV (.bool false)] 212 [[], [], [], [(1, some 169), (2, some 170)], [(3, some 171)], [(0, some 168), (4, some 172)], [], [], [], [(7, some 175), (8, some 176)], [(9, some 177)], [(6, some 174), (10, some 178)], [(5, some 173), (11, some 179)], [(12, some 180)], [(13, some 181)], [(14, some 182)], [(14, some 182)], [(14, some 182)], [(16, some 184), (17, some 185), (14, some 182)], [(18, some 186), (14, some 182)], [(15, some 183), (19, some 187), (14, some 182)], [(14, some 182)], [(14, some 182)], [(14, some 182)], [(22, some 190), (23, some 191), (14, some 182)], [(24, some 192), (14, some 182)], [(21, some 189), (25, some 193), (14, some 182)], [(26, some 194), (14, some 182)], [(20, some 188), (27, some 195), (14, some 182)], [(14, some 182), (28, some 196)]] [(0, some 168), (1, some 169), (2, some 170), (3, some 171), (4, some 172), (5, some 173), (6, some 174), (7, some 175), (8, some 176), (9, some 177), (10, some 178), (11, some 179), (12, some 180), (13, some 181), (14, some 182), (15, some 183), (16, some 184), (17, some 185), (18, some 186), (19, some 187), (20, some 188), (21, some 189), (22, some 190), (23, some 191), (24, some 192), (25, some 193), (26, some 194), (27, some 195), (28, some 196), (29, some 197)] rfl (by kernel_rfl) ⟨fun _ _ _ _ h => h, fun _ _ _ _ h => h, fun _ _ _ _ h => h, fun _ _ _ _ h => h, fun _ _ _ _ h => h, fun _ _ _ _ h => h, fun _ _ _ _ h => h, fun _ _ _ _ h => h, fun _ _ _ _ h => h, fun _ _ _ _ h => h, fun _ _ _ _ h => h, fun _ _ _ _ h => h, fun _ _ _ _ h => h, fun _ _ _ _ h => h, fun _ _ _ _ h => h, fun _ _ _ _ h => h, fun _ _ _ _ h => h, fun _ _ _ _ h => h, fun _ _ _ _ h => h, fun _ _ _ _ h => h, fun _ _ _ _ h => h, fun _ _ _ _ h => h, fun _ _ _ _ h => h, fun _ _ _ _ h => h, fun _ _ _ _ h => h, fun _ _ _ _ h => h, fun _ _ _ _ h => h, fun _ _ _ _ h => h, fun _ _ _ _ h => h, fun _ _ _ _ h => h, trivial⟩ (fun _ a a' _ e h => by cases a; cases a'; cases e; exact h) ?hS ?hsteps ?hend
                case hS => exact fun w' hg => Lib.hid ((Below.refl _ _).drew.trans hg)
                case hsteps =>
                  refine ⟨?_, ?_, ?_, ?_, ?_, ?_, ?_, ?_, ?_, ?_, ?_, ?_, ?_, ?_, ?_, ?_, ?_, ?_, ?_, ?_, ?_, ?_, ?_, ?_, ?_, ?_, ?_, ?_, ?_, ?_, trivial⟩
                  · intro w' hs
                    simp only [AllV, rgPut]
                    clear hs
                    refine OpOk.run ?_ (fun K hK => ?_)
                    · rfl
                    go_simp
                    refine hK.out _ _ (Grows.refl _) ?_
                    exact rfl
                  · intro w' hs
                    simp only [AllV, rgPut]
                    clear hs
                    refine OpOk.run ?_ (fun K hK => ?_)
                    · rfl
                    go_simp
                    refine hK.out _ _ (Grows.refl _) ?_
                    exact rfl
                  · intro w' hs
                    simp only [AllV, rgPut]
                    clear hs
                    refine OpOk.run ?_ (fun K hK => ?_)
                    · rfl
                    go_simp
                    refine hK.out _ _ (Grows.refl _) ?_
                    exact rfl
                  · intro w' hs
                    simp only [AllV, rdP, isV, forall_eq, rgPut, Act.put, List.setIfInBounds_toArray, List.set_cons_zero, List.set_cons_succ]
                    clear hs
                    refine OpOk.run ?_ (fun K hK => ?_)
                    · rfl
                    go_simp
                    refine hK.out _ _ (Grows.refl _) ?_
                    exact rfl
                  · intro w' hs
                    simp only [AllV, rdP, isV, forall_eq, rgPut, Act.put, List.setIfInBounds_toArray, List.set_cons_zero, List.set_cons_succ]
                    refine OpOk.run ?_ (fun K hK => ?_)
                    · rfl
                    refine wp_load_mid 39 _ rfl b (off + j * 2) rfl [.int .u8 k, .slice ia n ic] _ (range_below HRX.out hs.out) Try.underlying39 rfl (by kernel_rfl) ?_
                    refine hK.out _ _ (Grows.refl _) ?_
                    exact rfl
                  · intro w' hs
                    simp only [AllV, rdP, isV, forall_eq, rgPut, Act.put, List.setIfInBounds_toArray, List.set_cons_zero, List.set_cons_succ]
                    refine OpOk.run ?_ (fun K hK => ?_)
                    · rfl
                    go_simp
                    go_at_call 20
                    refine (HAIN.out w' hs.out).mono ?_
                    rintro e w1 ⟨rfl, hb⟩
                    refine hK.out _ _ hb ?_
                    exact rfl
                  · intro w' hs
                    simp only [AllV, rgPut]
                    clear hs
                    refine OpOk.run ?_ (fun K hK => ?_)
                    · rfl
                    go_simp
                    refine hK.out _ _ (Grows.refl _) ?_
                    exact rfl
                  · intro w' hs
                    simp only [AllV, rgPut]
                    clear hs
                    refine OpOk.run ?_ (fun K hK => ?_)
                    · rfl
                    go_simp
                    refine hK.out _ _ (Grows.refl _) ?_
                    exact rfl
                  · intro w' hs
                    simp only [AllV, rgPut]
                    clear hs
                    refine OpOk.run ?_ (fun K hK => ?_)
                    · rfl
                    go_simp
                    refine hK.out _ _ (Grows.refl _) ?_
                    exact rfl
                  · intro w' hs
                    simp only [AllV, rdP, isV, forall_eq, rgPut, Act.put, List.setIfInBounds_toArray, List.set_cons_zero, List.set_cons_succ]
                    clear hs
                    refine OpOk.run ?_ (fun K hK => ?_)
                    · rfl
                    go_simp
                    refine hK.out _ _ (Grows.refl _) ?_
                    exact rfl
                  · intro w' hs
                    simp only [AllV, rdP, isV, forall_eq, rgPut, Act.put, List.setIfInBounds_toArray, List.set_cons_zero, List.set_cons_succ]
                    refine OpOk.run ?_ (fun K hK => ?_)
                    · rfl
                    refine wp_load_mid 39 _ rfl b (off + j * 2) rfl [.int .u8 k, .slice ia n ic] _ (range_below HRX.out hs.out) Try.underlying39 rfl (by kernel_rfl) ?_
                    refine hK.out _ _ (Grows.refl _) ?_
                    exact rfl
                  · intro w' hs
                    simp only [AllV, rdP, isV, forall_eq, rgPut, Act.put, List.setIfInBounds_toArray, List.set_cons_zero, List.set_cons_succ]
                    refine OpOk.run ?_ (fun K hK => ?_)
                    · rfl
                    go_simp
                    go_at_call 20
                    refine (HCIN.out w' hs.out).mono ?_
                    rintro e w1 ⟨rfl, hb⟩
                    refine hK.out _ _ hb ?_
                    exact rfl
                  · intro w' hs
                    simp only [AllV, rdP, isV, forall_eq, rgPut, Act.put, List.setIfInBounds_toArray, List.set_cons_zero, List.set_cons_succ]
                    have hwr : IntKind.i64.wrap ((CA : Int) + (CC : Int)) = (CA : Int) + (CC : Int) := IntWalk.i64_in _ (by have := HCAB.out; have := HCCB.out; omega)
                    clear hs
                    refine OpOk.run ?_ (fun K hK => ?_)
                    · rfl
                    go_simp
                    refine hK.out _ _ (Grows.refl _) ?_
                    exact rfl
                  · intro w' hs
                    simp only [AllV, rdP, isV, forall_eq, rgPut, Act.put, List.setIfInBounds_toArray, List.set_cons_zero, List.set_cons_succ]
                    have hz : ((CA : Int) + (CC : Int) == 0) = false := HZ0.out
                    clear hs
                    refine OpOk.run ?_ (fun K hK => ?_)
                    · rfl
                    go_simp
                    refine hK.out _ _ (Grows.refl _) ?_
                    exact rfl
                  · intro w' hs
                    simp only [AllV, rdP, isV, forall_eq, rgPut, Act.put, List.setIfInBounds_toArray, List.set_cons_zero, List.set_cons_succ]
                    clear hs
                    refine OpOk.run ?_ (fun K hK => ?_)
                    · rfl
                    go_simp
                    refine hK.out _ _ (Grows.refl _) ?_
                    exact rfl
                  · intro w' hs
                    simp only [AllV, rdP, isV, forall_eq, rgPut, Act.put, List.setIfInBounds_toArray, List.set_cons_zero, List.set_cons_succ]
                    clear hs
                    refine OpOk.run ?_ (fun K hK => ?_)
                    · rfl
                    go_simp
                    refine hK.out _ _ (Grows.refl _) ?_
                    exact rfl
                  · intro w' hs
                    simp only [AllV, rdP, isV, forall_eq, rgPut, Act.put, List.setIfInBounds_toArray, List.set_cons_zero, List.set_cons_succ]
                    clear hs
                    refine OpOk.run ?_ (fun K hK => ?_)
                    · rfl
                    go_simp
                    refine hK.out _ _ (Grows.refl _) ?_
                    exact rfl
                  · intro w' hs
                    simp only [AllV, rdP, isV, forall_eq, rgPut, Act.put, List.setIfInBounds_toArray, List.set_cons_zero, List.set_cons_succ]
                    clear hs
                    refine OpOk.run ?_ (fun K hK => ?_)
                    · rfl
                    go_simp
                    refine hK.out _ _ (Grows.refl _) ?_
                    exact rfl
                  · intro w' hs
                    simp only [AllV, rdP, isV, forall_eq, rgPut, Act.put, List.setIfInBounds_toArray, List.set_cons_zero, List.set_cons_succ]
                    clear hs
                    refine OpOk.run ?_ (fun K hK => ?_)
                    · rfl
                    go_simp
                    refine hK.out _ _ (Grows.refl _) ?_
                    exact rfl
                  · intro w' hs
                    simp only [AllV, rdP, isV, forall_eq, rgPut, Act.put, List.setIfInBounds_toArray, List.set_cons_zero, List.set_cons_succ]
                    refine OpOk.run ?_ (fun K hK => ?_)
                    · rfl
                    refine wp_load_mid 39 _ rfl b (off + j * 2) rfl [.int .u8 k, .slice ia n ic] _ (range_below HRX.out hs.out) Try.underlying39 rfl (by kernel_rfl) ?_
                    refine hK.out _ _ (Grows.refl _) ?_
                    exact rfl
                  · intro w' hs
                    simp only [AllV, rdP, isV, forall_eq, rgPut, Act.put, List.setIfInBounds_toArray, List.set_cons_zero, List.set_cons_succ]
                    refine OpOk.run ?_ (fun K hK => ?_)
                    · rfl
                    go_simp
                    go_at_call 20
                    refine (HUIN.out w' hs.out).mono ?_
                    rintro e w1 ⟨rfl, hb⟩
                    refine hK.out _ _ hb ?_
                    exact rfl
                  · intro w' hs
                    simp only [AllV, rdP, isV, forall_eq, rgPut, Act.put, List.setIfInBounds_toArray, List.set_cons_zero, List.set_cons_succ]
                    clear hs
                    refine OpOk.run ?_ (fun K hK => ?_)
                    · rfl
                    go_simp
                    refine hK.out _ _ (Grows.refl _) ?_
                    exact rfl
                  · intro w' hs
                    simp only [AllV, rdP, isV, forall_eq, rgPut, Act.put, List.setIfInBounds_toArray, List.set_cons_zero, List.set_cons_succ]
                    clear hs
                    refine OpOk.run ?_ (fun K hK => ?_)
                    · rfl
                    go_simp
                    refine hK.out _ _ (Grows.refl _) ?_
                    exact rfl
                  · intro w' hs
                    simp only [AllV, rdP, isV, forall_eq, rgPut, Act.put, List.setIfInBounds_toArray, List.set_cons_zero, List.set_cons_succ]
                    clear hs
                    refine OpOk.run ?_ (fun K hK => ?_)
                    · rfl
                    go_simp
                    refine hK.out _ _ (Grows.refl _) ?_
                    exact rfl
                  · intro w' hs
                    simp only [AllV, rdP, isV, forall_eq, rgPut, Act.put, List.setIfInBounds_toArray, List.set_cons_zero, List.set_cons_succ]
                    clear hs
                    refine OpOk.run ?_ (fun K hK => ?_)
                    · rfl
                    go_simp
                    refine hK.out _ _ (Grows.refl _) ?_
                    exact rfl
                  · intro w' hs
                    simp only [AllV, rdP, isV, forall_eq, rgPut, Act.put, List.setIfInBounds_toArray, List.set_cons_zero, List.set_cons_succ]
                    refine OpOk.run ?_ (fun K hK => ?_)
                    · rfl
                    refine wp_load_mid 39 _ rfl b (off + j * 2) rfl [.int .u8 k, .slice ia n ic] _ (range_below HRX.out hs.out) Try.underlying39 rfl (by kernel_rfl) ?_
                    refine hK.out _ _ (Grows.refl _) ?_
                    exact rfl
                  · intro w' hs
                    simp only [AllV, rdP, isV, forall_eq, rgPut, Act.put, List.setIfInBounds_toArray, List.set_cons_zero, List.set_cons_succ]
                    refine OpOk.run ?_ (fun K hK => ?_)
                    · rfl
                    go_simp
                    go_at_call 20
                    refine (HAIN.out w' hs.out).mono ?_
                    rintro e w1 ⟨rfl, hb⟩
                    refine hK.out _ _ hb ?_
                    exact rfl
                  · intro w' hs
                    simp only [AllV, rdP, isV, forall_eq, rgPut, Act.put, List.setIfInBounds_toArray, List.set_cons_zero, List.set_cons_succ]
                    have hmx := HMX.out
                    clear hs
                    refine OpOk.run ?_ (fun K hK => ?_)
                    · rfl
                    go_simp
                    refine hK.out _ _ (Grows.refl _) ?_
                    exact rfl
                  · intro w' hs
                    simp only [AllV, rdP, isV, forall_eq, rgPut, Act.put, List.setIfInBounds_toArray, List.set_cons_zero, List.set_cons_succ]
                    clear hs
                    refine OpOk.run ?_ (fun K hK => ?_)
                    · rfl
                    go_simp
                    refine hK.out _ _ (Grows.refl _) ?_
                    exact rfl
                  · intro w' hs
                    simp only [AllV, rdP, isV, forall_eq, rgPut, Act.put, List.setIfInBounds_toArray, List.set_cons_zero, List.set_cons_succ]
                    clear hs
                    refine OpOk.run ?_ (fun K hK => ?_)
                    · rfl
                    go_simp
                    refine hK.out _ _ (Grows.refl _) ?_
                    exact rfl
                case hend =>
                  intro w' hs
                  simp only [AllV, rdP, isV, forall_eq, rgPut, Act.put, List.setIfInBounds_toArray, List.set_cons_zero, List.set_cons_succ]
                  have HB2 := Lib.hid (HBi.out.trans (hs.out.mono HBi.out.size))
                  clear hs
                  go_wp2
                  go_roundw
                  case rel => exact ⟨j + 1, HLT.out, by go_num, HB2⟩
                  case measure => have := HLT.out; simp [intOf]; omega
              · obtain rfl : nu = j := by omega
                have hdl : decide ((nu : Int) < (nu : Int)) = false := by simp
                clear hdl
                have hdl : decide ((nu : Int) < (nu : Int)) = false := by simp
                have HB26 := Lib.hid (HB25.out.trans (HBi.out.mono HB25.out.size))
                have HU26 := Lib.hid (HU25.out.below HBi.out)
                have HC26 := Lib.hid (HC25.out.below HBi.out)
                have hncs : nc = cs.length := by rw [HNC.out, ← HCM.out, List.length_map]
                have HNCS := Lib.hid hncs
                clear hncs
                go_wp2
                go_loopw [24] (fun i_ wr => ∃ j : Nat, j ≤ nc ∧ i_ = .int .i64 j ∧ Hid (Below wi.heap.size wi wr)) (fun i_ _ => nc - (intOf i_).toNat)
                case atStart => exact ⟨0, Nat.zero_le _, rfl, Lib.hid (Below.refl _ _)⟩
                case round =>
                  obtain ⟨j, hj, rfl, HBj⟩ := hrel
                  obtain ⟨wj, hwj⟩ : ∃ wj : World, wj = wr := ⟨_, rfl⟩
                  subst hwj
                  have HB27 := Lib.hid (HB26.out.trans (HBj.out.mono HB26.out.size))
                  by_cases hlt : j < nc
                  · obtain ⟨b, off, x, ia, n, ic, hx, ha, hrow, hxv, hm, hmc, hc, hits⟩ := HC26.out.item j (by rw [← HNCS.out]; exact hlt)
                    subst ha
                    have hdl2 : decide ((j : Int) < (nc : Int)) = true := by simp; omega
                    have HLT := Lib.hid hlt
                    have HKX := Lib.hid (HC26.out.kind x (List.mem_of_getElem? hx))
                    have HXN := Lib.hid (HCI.out x (List.mem_of_getElem? hx))
                    have HITS := Lib.hid (hits.below HBj.out)
                    have HRX0 : Hid (wj.rangeAt b (off + j * 2) [.int .u8 x.k, .slice ia n ic]) := Lib.hid (range_below hrow HBj.out)
                    have HMEM : Hid (x.li ∈ itemsL M) := Lib.hid (by rw [← HCM.out]; exact List.mem_map.2 ⟨x, List.mem_of_getElem? hx, rfl⟩)
                    have HLAW := Lib.hid (HBI.out.2.1 x.li HMEM.out)
                    obtain ⟨k, hk⟩ : ∃ k, Hid (k = x.k) := ⟨_, Lib.hid rfl⟩
                    rw [← hk.out] at HRX0 HKX
                    have HRX : Hid (wj.rangeAt b (off + j * 2) [.int .u8 k, .slice ia n ic]) := HRX0
                    have HXL2 : Hid (x.li = ⟨k, x.i.map ItV.it⟩) := Lib.hid (by rw [hk.out]; rfl)
                    obtain ⟨CU, hCU⟩ : ∃ c, Hid (c = cntL (itemsL QL) x.li) := ⟨_, Lib.hid rfl⟩
                    rw [← hCU.out] at HLAW
                    have hz0 : ((CU : Int) == 0) = false := by have := HLAW.out; simp; omega
                    have HUIN := Lib.hid (in_calls (.slice ua nu cu) us k x.i (.slice ia n ic) wj (itemsL QL) HUM.out x.li HXL2.out (HU26.out.below HBj.out) HKX.out HITS.out (by have := HUL.out; have := HNU.out; omega) HUI.out HXN.out)
                    rw [← hCU.out] at HUIN
                    clear hrow hx hxv hm hits HRX0
                    go_wp2_with (first
                      | ((with_reducible show wpList _ _ _ (⟨some 208, _, _, _, _, _⟩ :: _) _ _); refine wpList_load_mid rfl 39 _ rfl b (off + j * 2) rfl [.int .u8 k, .slice ia n ic] _ HRX.out Try.underlying39 rfl (by kernel_rfl) ?_)
                      | fail)
                    refine HUIN.out.mono ?_
                    rintro e w28 ⟨rfl, hb⟩
                    have HB28 := Lib.hid (HBj.out.trans (hb.mono HBj.out.size))
                    clear hb HUIN
                    go_wp2
                    go_roundw
                    case rel => exact ⟨j + 1, HLT.out, by go_num, HB28⟩
                    case measure => have := HLT.out; simp [intOf]; omega
                  · obtain rfl : nc = j := by omega
                    have hdl2 : decide ((nc : Int) < (nc : Int)) = false := by simp
                    go_wp2_with fail
                    refine (works_calls _).mono ?_
                    rintro e w99 ⟨rfl, hb⟩
                    have HB99 := Lib.hid (HB27.out.trans (hb.mono HB27.out.size))
                    clear hb
                    go_wp2
                    go_ret
                    exact ⟨rfl, HB99.out⟩
end Go.Proofs.Ytilanncobbdlfaa
