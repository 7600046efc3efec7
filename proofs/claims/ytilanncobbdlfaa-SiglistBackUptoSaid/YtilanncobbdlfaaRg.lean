/-
  A region that draws its order, by promises: each operation's value is promised once, out of the promises of the operations that it waits for, in whatever world comes out of the first by growth 'G'. No condition; nothing of the program in sight.
-/
import Derived.Test.YtilanncobbdlfaaKit
import Derived.RegionTactic
namespace Go.Proofs.Ytilanncobbdlfaa
open Go Go.RowKit

section
variable (P : Program) (md : Region.Mode) (ops : Array Oper) (Q : Exit → Act → World → Prop) (G : World → World → Prop) (S : World → Prop) (R : Nat → Value → World → Prop)

def rgPut (a : Act) : List (Option Tmp × Value) → Act
  | [] => a
  | (d, v) :: l => rgPut (a.put d v) l

/-- Of each of these operations' values what was promised. -/
def AllV (w : World) : List (Nat × Option Tmp) → (List (Option Tmp × Value) → Prop) → Prop
  | [], K => K []
  | (j, d) :: ns, K => ∀ v, R j v w → AllV w ns (fun l => K ((d, v) :: l))

/-- The operation keeps its promise. -/
def OpOk (i : Nat) (o : Oper) (w : World) (a : Act) : Prop :=
  (Region.wanted o (yielded ops a.tmps) = true ∧ ∀ K : Act → World → Prop, Hid (∀ v w', G w w' → R i v w' → K (a.put o.dst v) w') → o.wp P a w K Q) ∨
  (Region.wanted o (yielded ops a.tmps) = false ∧ R i undef w)

def Steps (a0 : Act) : Nat → List Oper → List (List (Nat × Option Tmp)) → Prop
  | i, o :: os, ns :: nss => (∀ w, S w → AllV R w ns fun l => OpOk P ops Q G R i o w (rgPut a0 l)) ∧ Steps a0 (i + 1) os nss
  | _, [], _ => True
  | _, _ :: _, [] => False

/-! ### What is reckoned -/

def rgDirs (o : Oper) : List Nat := (o.after.toList.filter (Region.binds md ·)).map (·.on)
def rgPre : List Oper → List Nat → List Nat
  | [], acc => acc
  | o :: os, acc => rgPre os (acc ++ [(rgDirs md o).foldl (fun m k => m ||| (1 <<< k) ||| acc.getD k 0) 0])
def rgDst (i : Nat) : Option Tmp := (ops[i]?).bind (·.dst)
def rgPreOk (pre : List Nat) : Bool :=
  (List.range ops.size).all fun i => match ops[i]? with
    | none => true
    | some o => (rgDirs md o).all (fun k => decide (k < i)) && (List.range ops.size).all fun j => !(pre.getD i 0).testBit j || (rgDirs md o).any (fun k => k == j || (pre.getD k 0).testBit j)
def rgNeed (pre : List Nat) (i : Nat) (o : Oper) (ns : List (Nat × Option Tmp)) : Bool :=
  ns.all (fun p => (p.2 == rgDst ops p.1) && decide (p.1 < ops.size) && (pre.getD i 0).testBit p.1) &&
  (List.range ops.size).all (fun j => match rgDst ops j with | none => true | some d => !(o.looksAt ops).contains d || ns.contains (j, some d) || (pre.getD j 0).testBit i)
def rgNeeds (pre : List Nat) : Nat → List Oper → List (List (Nat × Option Tmp)) → Bool
  | i, o :: os, ns :: nss => rgNeed ops pre i o ns && rgNeeds pre (i + 1) os nss
  | _, [], [] => true
  | _, _, _ => false
def rgDsts (n : Nat) : Bool :=
  (List.range ops.size).all fun i => match rgDst ops i with
    | none => true
    | some d => decide (d < n) && (List.range ops.size).all fun j => j == i || rgDst ops j != some d
def rgFull (full : List (Nat × Option Tmp)) : Bool :=
  full.all (fun p => (p.2 == rgDst ops p.1) && decide (p.1 < ops.size)) && (List.range ops.size).all (fun j => (rgDst ops j).isNone || full.contains (j, rgDst ops j))
def rgOk (n : Nat) (nss : List (List (Nat × Option Tmp))) (full : List (Nat × Option Tmp)) : Bool :=
  rgPreOk md ops (rgPre md ops.toList []) && rgNeeds ops (rgPre md ops.toList []) 0 ops.toList nss && rgDsts ops n && rgFull ops full && Region.noSelect ops
end

section
variable {P : Program} {md : Region.Mode} {ops : Array Oper} {Q : Exit → Act → World → Prop} {G : World → World → Prop} {S : World → Prop} {R : Nat → Value → World → Prop}

theorem eval_tmp (a : Act) (t : Tmp) : a.eval (.tmp t) = a.tmps.getD t undef := rfl

theorem rgPut_size : ∀ (l : List (Option Tmp × Value)) (a : Act), (rgPut a l).tmps.size = a.tmps.size ∧ (rgPut a l).defers = a.defers
  | [], a => ⟨rfl, rfl⟩
  | (d, v) :: l, a => by
    have h := rgPut_size l (a.put d v)
    unfold rgPut
    rw [h.1, h.2]
    cases d <;> simp [Act.put]

/-- The last word on a place: none of the list speaks of it. -/
theorem rgPut_none : ∀ (l : List (Option Tmp × Value)) (a : Act) (t : Tmp), (∀ p ∈ l, p.1 ≠ some t) → (rgPut a l).tmps[t]? = a.tmps[t]?
  | [], a, t, _ => rfl
  | (d, v) :: l, a, t, h => by
    unfold rgPut
    rw [rgPut_none l (a.put d v) t (fun p hp => h p (List.mem_cons_of_mem _ hp))]
    have hd := h (d, v) (List.mem_cons_self ..)
    cases d with
    | none => rfl
    | some d =>
      have : d ≠ t := fun e => hd (by rw [e])
      simp [Act.put, Array.getElem?_setIfInBounds_ne this]

/-- All of the list that speak of the place say v. -/
theorem rgPut_some : ∀ (l : List (Option Tmp × Value)) (a : Act) (t : Tmp) (v : Value), t < a.tmps.size → (∃ p ∈ l, p.1 = some t) → (∀ p ∈ l, p.1 = some t → p.2 = v) → (rgPut a l).tmps[t]? = some v
  | [], a, t, v, _, h, _ => by obtain ⟨p, hp, _⟩ := h; cases hp
  | (d, u) :: l, a, t, v, ht, h, hall => by
    unfold rgPut
    by_cases hl : ∃ p ∈ l, p.1 = some t
    · refine rgPut_some l (a.put d u) t v ?_ hl (fun p hp => hall p (List.mem_cons_of_mem _ hp))
      cases d <;> simpa [Act.put] using ht
    · rw [rgPut_none l (a.put d u) t (fun p hp e => hl ⟨p, hp, e⟩)]
      obtain ⟨p, hp, e⟩ := h
      rcases List.mem_cons.1 hp with rfl | hp
      · simp only at e
        subst e
        have := hall _ (List.mem_cons_self ..) rfl
        simp only at this
        subst this
        simp [Act.put, ht]
      · exact absurd ⟨p, hp, e⟩ hl

theorem allV_get (w : World) (vals : Nat → Value) : ∀ (ns : List (Nat × Option Tmp)) (K : List (Option Tmp × Value) → Prop), AllV R w ns K → (∀ p ∈ ns, R p.1 (vals p.1) w) → K (ns.map fun p => (p.2, vals p.1))
  | [], _, h, _ => h
  | (j, d) :: ns, _, h, hr => allV_get w vals ns _ (h (vals j) (hr (j, d) (List.mem_cons_self ..))) (fun p hp => hr p (List.mem_cons_of_mem _ hp))

theorem steps_at (a0 : Act) : ∀ (os : List Oper) (nss : List (List (Nat × Option Tmp))) (i : Nat), Steps P ops Q G S R a0 i os nss → ∀ k o, os[k]? = some o → ∃ ns, nss[k]? = some ns ∧ ∀ w, S w → AllV R w ns fun l => OpOk P ops Q G R (i + k) o w (rgPut a0 l)
  | [], _, _, _, k, o, h => by simp at h
  | _ :: _, [], _, h, _, _, _ => h.elim
  | o :: os, ns :: nss, i, h, 0, o', ho => by
    simp only [List.getElem?_cons_zero, Option.some.injEq] at ho
    subst ho
    exact ⟨ns, rfl, h.1⟩
  | o :: os, ns :: nss, i, h, k + 1, o', ho => by
    obtain ⟨ns', h1, h2⟩ := steps_at a0 os nss (i + 1) h.2 k o' (by simpa using ho)
    refine ⟨ns', by simpa using h1, ?_⟩
    rw [show i + (k + 1) = i + 1 + k by omega]
    exact h2

theorem needs_at (pre : List Nat) : ∀ (os : List Oper) (nss : List (List (Nat × Option Tmp))) (i : Nat), rgNeeds ops pre i os nss = true → ∀ k o ns, os[k]? = some o → nss[k]? = some ns → rgNeed ops pre (i + k) o ns = true
  | [], _, _, _, k, o, _, h, _ => by simp at h
  | _ :: _, [], _, h, _, _, _, _, _ => by simp [rgNeeds] at h
  | o :: os, ns :: nss, i, h, 0, o', ns', ho, hn => by
    simp only [List.getElem?_cons_zero, Option.some.injEq] at ho hn
    subst ho hn
    simp only [rgNeeds, Bool.and_eq_true] at h
    exact h.1
  | o :: os, ns :: nss, i, h, k + 1, o', ns', ho, hn => by
    simp only [rgNeeds, Bool.and_eq_true] at h
    rw [show i + (k + 1) = i + 1 + k by omega]
    exact needs_at pre os nss (i + 1) h.2 k o' ns' (by simpa using ho) (by simpa using hn)

/-- What an operation promises at one state it keeps at each that it cannot tell from it. -/
theorem OpOk.at {i : Nat} {o : Oper} {w : World} {c a : Act} (hi : ops[i]? = some o) (hsel : ∀ cs b, o.op ≠ .select cs b) (hev : ∀ x ∈ o.op.operands, c.eval x = a.eval x)
    (hwant : Region.wanted o (yielded ops c.tmps) = Region.wanted o (yielded ops a.tmps)) (hdf : c.defers = a.defers) (hsz : ∀ d, o.dst = some d → d < c.tmps.size)
    (hQ : ∀ ch (a a' : Act) w, a.defers = a'.defers → Q (.panic ch) a w → Q (.panic ch) a' w) (h : OpOk P ops Q G R i o w c) :
    wpOp P ops Q i (fun a' w' => (∃ v, a' = a.put o.dst v ∧ R i v w') ∧ (G w w' ∨ w' = w)) a w := by
  unfold wpOp
  rw [hi]
  simp only
  rw [← hwant]
  have hput : ∀ u v, c.put o.dst u = c.put o.dst v → a.put o.dst u = a.put o.dst v := by
    intro u v e
    cases hd : o.dst with
    | none => rfl
    | some d =>
      rw [hd] at e
      have hlt := hsz d hd
      have : (c.put (some d) u).tmps[d]? = (c.put (some d) v).tmps[d]? := by rw [e]
      simp [Act.put, hlt] at this
      rw [this]
  rcases h with ⟨hw, h⟩ | ⟨hw, h⟩
  · rw [if_pos hw]
    refine .inl ?_
    have h := h (fun a' w' => ∃ v, a' = c.put o.dst v ∧ G w w' ∧ R i v w') (Lib.hid (fun v w' h1 h2 => ⟨v, rfl, h1, h2⟩))
    unfold Oper.wp at *
    rw [execOp_congr o hsel hev] at h
    generalize (execOp a.eval o).run P w = r at *
    cases r with
    | ok n w' =>
      cases n <;> simp only [Oper.upon] at h ⊢
      case value u => obtain ⟨v, e, h1, h2⟩ := h; exact ⟨⟨v, hput _ _ e, h2⟩, .inl h1⟩
      case skip => obtain ⟨v, e, h1, h2⟩ := h; exact ⟨⟨v, hput _ _ e, h2⟩, .inl h1⟩
      case defer d =>
        obtain ⟨v, e, _⟩ := h
        exfalso
        have := congrArg (fun x : Act => x.defers.length) e
        cases ho : o.dst <;> simp [ho, Act.put] at this
      case enter f args =>
        refine Calls.mono h fun e w'' he => ?_
        cases e with
        | returned u => obtain ⟨v, e, h1, h2⟩ := he; exact ⟨⟨v, hput _ _ e, h2⟩, .inl h1⟩
        | panicked ch => exact hQ _ _ _ _ hdf he
        | outgrown => exact he
      case row row args => exact Rows.mono h fun u w'' he => by obtain ⟨v, e, h1, h2⟩ := he; exact ⟨⟨v, hput _ _ e, h2⟩, .inl h1⟩
    | halt x w' =>
      cases x <;> simp only [Oper.upon] at h ⊢
      case panic u => exact hQ _ _ _ _ hdf h
  · rw [if_neg (by simp [hw])]
    exact ⟨⟨undef, rfl, h⟩, .inr (by trivial)⟩

/-- The state in the midst of the region. -/
structure Mid (G : World → World → Prop) (R : Nat → Value → World → Prop) (md : Region.Mode) (ops : Array Oper) (a0 : Act) (w0 : World) (listed : Array Bool) (vals : Nat → Value) (a : Act) (w : World) : Prop where
  lsize : listed.size = ops.size
  grow : G w0 w
  defers : a.defers = a0.defers
  size : a.tmps.size = a0.tmps.size
  down : ∀ (i : Nat) o, listed.getD i false = true → ops[i]? = some o → ∀ k ∈ rgDirs md o, listed.getD k false = true
  kept : ∀ i, listed.getD i false = true → R i (vals i) w
  got : ∀ i d, listed.getD i false = true → rgDst ops i = some d → a.tmps[d]? = some (vals i)
  rest : ∀ d, (∀ i, listed.getD i false = true → rgDst ops i ≠ some d) → a.tmps[d]? = a0.tmps[d]?

theorem pre_listed {pre : List Nat} (hp : rgPreOk md ops pre = true) {listed : Array Bool} (hls : listed.size = ops.size) (hdown : ∀ (i : Nat) o, listed.getD i false = true → ops[i]? = some o → ∀ k ∈ rgDirs md o, listed.getD k false = true) :
    ∀ (n i : Nat), i < n → ∀ o, ops[i]? = some o → (∀ k ∈ rgDirs md o, listed.getD k false = true) → ∀ j, j < ops.size → (pre.getD i 0).testBit j = true → listed.getD j false = true
  | 0, i, h, _, _, _, _, _, _ => by omega
  | n + 1, i, hin, o, ho, hd, j, hj, hb => by
    have hlt : i < ops.size := (Array.getElem?_eq_some_iff.1 ho).1
    have h1 := List.all_eq_true.1 hp i (List.mem_range.2 hlt)
    simp only [ho, Bool.and_eq_true, List.all_eq_true, List.mem_range, Bool.or_eq_true, Bool.not_eq_true', decide_eq_true_eq, List.any_eq_true, beq_iff_eq] at h1
    rcases h1.2 j hj with h2 | ⟨k, hk, h2⟩
    · rw [h2] at hb; cases hb
    · have hkl := hd k hk
      rcases h2 with rfl | h2
      · exact hkl
      · have hki := h1.1 k hk
        obtain ⟨ok, hok⟩ : ∃ o, ops[k]? = some o := ⟨ops[k]'(by omega), by simp⟩
        exact pre_listed hp hls hdown n k (by omega) ok hok (hdown k ok hkl hok) j hj h2

theorem mid_step {a0 : Act} {w0 : World} {nss : List (List (Nat × Option Tmp))} {pre : List Nat} {listed : Array Bool} {vals : Nat → Value} {a : Act} {w : World} {n : Nat} (hn : a0.tmps.size = n)
    (hp : rgPreOk md ops pre = true) (hneed : rgNeeds ops pre 0 ops.toList nss = true) (hds : rgDsts ops n = true) (hsel : Region.noSelect ops = true)
    (hG2 : ∀ a b c, G a b → G b c → G a c) (hst : ∀ i v w w', G w w' → R i v w → R i v w') (hQ : ∀ ch (a a' : Act) w, a.defers = a'.defers → Q (.panic ch) a w → Q (.panic ch) a' w)
    (hS : ∀ w, G w0 w → S w) (hsteps : Steps P ops Q G S R a0 0 ops.toList nss) (hm : Mid G R md ops a0 w0 listed vals a w) (i : Nat) (hi : i ∈ Region.ready md ops listed) :
    wpOp P ops Q i (fun a' w' => ∃ vals', Mid G R md ops a0 w0 (listed.setIfInBounds i true) vals' a' w') a w := by
  obtain ⟨hun, o, ho, hall⟩ := mem_ready.1 hi
  have hlt : i < ops.size := (Array.getElem?_eq_some_iff.1 ho).1
  have hil : i < listed.size := by rw [hm.lsize]; exact hlt
  have hnl : listed.getD i false = false := by
    simp [hil] at hun ⊢; exact hun
  have hdir : ∀ k ∈ rgDirs md o, listed.getD k false = true := fun k hk => by
    unfold rgDirs at hk
    obtain ⟨e, he, rfl⟩ := List.mem_map.1 hk
    obtain ⟨he1, he2⟩ := List.mem_filter.1 he
    exact hall e (by simpa using he1) he2
  obtain ⟨ns, hns, hok⟩ := steps_at a0 ops.toList nss 0 hsteps i o (by simpa using ho)
  have hnd := needs_at pre ops.toList nss 0 hneed i o ns (by simpa using ho) hns
  rw [Nat.zero_add] at hok hnd
  simp only [rgNeed, Bool.and_eq_true, List.all_eq_true, decide_eq_true_eq, List.mem_range, beq_iff_eq] at hnd
  obtain ⟨hnd1, hnd2⟩ := hnd
  have hlst : ∀ p ∈ ns, listed.getD p.1 false = true := fun p hp' => pre_listed hp hm.lsize hm.down (i + 1) i (by omega) o ho hdir p.1 (hnd1 p hp').1.2 (hnd1 p hp').2
  have hok := allV_get w vals ns _ (hok w (hS w hm.grow)) (fun p hp' => hm.kept p.1 (hlst p hp'))
  have hdst : ∀ (j : Nat) d, rgDst ops j = some d → d < n ∧ ∀ k, k ≠ j → rgDst ops k ≠ some d := by
    intro j d hj
    have hjlt : j < ops.size := by
      rcases Nat.lt_or_ge j ops.size with h | h
      · exact h
      · simp [rgDst, Array.getElem?_eq_none h] at hj
    have h1 := List.all_eq_true.1 hds j (List.mem_range.2 hjlt)
    simp only [hj, Bool.and_eq_true, decide_eq_true_eq, List.all_eq_true, List.mem_range, Bool.or_eq_true, beq_iff_eq, bne_iff_ne] at h1
    refine ⟨h1.1, fun k hk e => ?_⟩
    have hklt : k < ops.size := by
      rcases Nat.lt_or_ge k ops.size with h | h
      · exact h
      · simp [rgDst, Array.getElem?_eq_none h] at e
    exact (h1.2 k hklt).resolve_left hk e
  have hoi : rgDst ops i = o.dst := by simp [rgDst, ho]
  -- the two states agree on what the operation looks at
  have hagree : ∀ t ∈ o.looksAt ops, (rgPut a0 (ns.map fun p => (p.2, vals p.1))).tmps[t]? = a.tmps[t]? := by
    intro t ht
    by_cases hin : ∃ p ∈ ns, p.2 = some t
    · obtain ⟨p, hpn, hpt⟩ := hin
      have hd := (hnd1 p hpn).1.1
      rw [hpt] at hd
      have htn := (hdst p.1 t hd.symm).1
      rw [hm.got p.1 t (hlst p hpn) hd.symm]
      refine rgPut_some _ _ _ _ (by rw [hn]; exact htn) ⟨(p.2, vals p.1), List.mem_map.2 ⟨p, hpn, rfl⟩, hpt⟩ ?_
      intro q hq hqt
      obtain ⟨p', hp', rfl⟩ := List.mem_map.1 hq
      have hd' := (hnd1 p' hp').1.1
      simp only at hqt ⊢
      rw [hqt] at hd'
      by_cases e : p'.1 = p.1
      · rw [e]
      · exact absurd hd'.symm ((hdst p.1 t hd.symm).2 p'.1 e)
    · rw [rgPut_none _ _ _ (fun q hq e => by
        obtain ⟨p', hp', rfl⟩ := List.mem_map.1 hq
        exact hin ⟨p', hp', e⟩)]
      refine (hm.rest t fun j hj e => ?_).symm
      have hjlt : j < ops.size := by
        rcases Nat.lt_or_ge j ops.size with h | h
        · exact h
        · simp [rgDst, Array.getElem?_eq_none h] at e
      have h1 := hnd2 j hjlt
      rw [e] at h1
      simp only [Bool.or_eq_true, Bool.not_eq_true', List.contains_iff_mem] at h1
      rcases h1 with (h1 | h1) | h1
      · have : (o.looksAt ops).contains t = true := by simpa using ht
        rw [this] at h1; cases h1
      · exact hin ⟨_, h1, rfl⟩
      · -- i stands ahead of j, which is listed already
        obtain ⟨oj, hoj⟩ : ∃ o, ops[j]? = some o := ⟨ops[j], by simp⟩
        have := pre_listed hp hm.lsize hm.down (j + 1) j (by omega) oj hoj (hm.down j oj hj hoj) i hlt h1
        rw [hnl] at this
        cases this
  have hev : ∀ x ∈ o.op.operands, (rgPut a0 (ns.map fun p => (p.2, vals p.1))).eval x = a.eval x := by
    intro x hx
    cases x with
    | tmp t =>
      have ht : t ∈ o.looksAt ops := List.mem_append_left _ (List.mem_filterMap.2 ⟨.tmp t, by simpa using hx, rfl⟩)
      rw [eval_tmp, eval_tmp, Array.getD_eq_getD_getElem?, Array.getD_eq_getD_getElem?, hagree t ht]
    | _ => rfl
  have hwant : Region.wanted o (yielded ops (rgPut a0 (ns.map fun p => (p.2, vals p.1))).tmps) = Region.wanted o (yielded ops a.tmps) := by
    unfold Region.wanted
    cases hg : o.guard with
    | none => rfl
    | some gw =>
      obtain ⟨g, want⟩ := gw
      have hy : yielded ops (rgPut a0 (ns.map fun p => (p.2, vals p.1))).tmps g = yielded ops a.tmps g := by
        unfold yielded
        cases ht : (ops[g]?).bind (·.dst) with
        | none => rfl
        | some t =>
          have := hagree t (by simp [Oper.looksAt, hg, ht])
          simp only [Option.bind_some, this]
      simp only [hy]
  have hps := rgPut_size (ns.map fun p => (p.2, vals p.1)) a0
  refine wpOp_mono ?_ (hok.at ho (Region.noSelect_spec hsel i o · · ho) hev hwant (by rw [hps.2, hm.defers]) (fun d hd => by rw [hps.1, hn]; exact (hdst i d (by rw [hoi]; exact hd)).1) hQ)
  rintro a' w' ⟨⟨v, rfl, hR⟩, hg⟩
  have hgr : G w0 w' := by
    rcases hg with hg | rfl
    · exact hG2 _ _ _ hm.grow hg
    · exact hm.grow
  have hset : ∀ j, (listed.setIfInBounds i true).getD j false = true → j = i ∨ listed.getD j false = true := by
    intro j hj
    by_cases e : i = j
    · exact .inl e.symm
    · rw [getD_set_ne false e] at hj; exact .inr hj
  refine ⟨fun j => if j = i then v else vals j, by simp [hm.lsize], hgr, ?_, ?_, ?_, ?_, ?_, ?_⟩
  · rw [← hm.defers]; cases o.dst <;> rfl
  · rw [← hm.size]; cases o.dst <;> simp [Act.put]
  · intro j oj hj hoj k hk
    rcases hset j hj with rfl | hj
    · obtain rfl : o = oj := Option.some.inj (ho.symm.trans hoj)
      exact getD_set_true (hdir k hk)
    · exact getD_set_true (hm.down j oj hj hoj k hk)
  · intro j hj
    by_cases e : j = i
    · subst e; simp only [if_true]; exact hR
    · rw [if_neg e]
      have h1 := hm.kept j ((hset j hj).resolve_left e)
      rcases hg with hg | rfl
      · exact hst _ _ _ _ hg h1
      · exact h1
  · intro j d hj hjd
    by_cases e : j = i
    · subst e
      simp only [if_true]
      rw [hoi] at hjd
      rw [hjd]
      have := (hdst j d (by rw [hoi]; exact hjd)).1
      simp [Act.put, hm.size, hn, this]
    · rw [if_neg e]
      have h1 := hm.got j d ((hset j hj).resolve_left e) hjd
      cases hod : o.dst with
      | none => exact h1
      | some d' =>
        have hne : d' ≠ d := fun e' => (hdst i d' (by rw [hoi]; exact hod)).2 j e (by rw [e']; exact hjd)
        simp [Act.put, Array.getElem?_setIfInBounds_ne hne, h1]
  · intro d hno
    have hid : rgDst ops i ≠ some d := hno i (by simp [hil])
    have h1 := hm.rest d (fun j hj => hno j (getD_set_true hj))
    cases hod : o.dst with
    | none => exact h1
    | some d' =>
      have hne : d' ≠ d := fun e' => hid (by rw [hoi, hod, e'])
      simp [Act.put, Array.getElem?_setIfInBounds_ne hne, h1]

theorem countP_less {l : List Nat} {p q : Nat → Bool} (i : Nat) (hi : i ∈ l) (hpi : p i = true) (hqi : q i = false) (h : ∀ j, q j = true → p j = true) : l.countP q + 1 ≤ l.countP p := by
  induction l with
  | nil => cases hi
  | cons x l ih =>
    rw [List.countP_cons, List.countP_cons]
    rcases List.mem_cons.1 hi with rfl | hi
    · have := List.countP_mono_left (p := q) (q := p) (l := l) (fun j _ hj => h j hj)
      simp [hpi, hqi]; omega
    · have := ih hi
      by_cases hx : q x = true
      · simp [hx, h x hx]; omega
      · simp [hx]; split <;> omega

theorem mid_all {a0 : Act} {w0 : World} {nss : List (List (Nat × Option Tmp))} {full : List (Nat × Option Tmp)} {pre : List Nat} {n : Nat} (hn : a0.tmps.size = n)
    (hp : rgPreOk md ops pre = true) (hneed : rgNeeds ops pre 0 ops.toList nss = true) (hds : rgDsts ops n = true) (hfull : rgFull ops full = true) (hsel : Region.noSelect ops = true)
    (hG2 : ∀ a b c, G a b → G b c → G a c) (hst : ∀ i v w w', G w w' → R i v w → R i v w') (hQ : ∀ ch (a a' : Act) w, a.defers = a'.defers → Q (.panic ch) a w → Q (.panic ch) a' w)
    (hS : ∀ w, G w0 w → S w) (hsteps : Steps P ops Q G S R a0 0 ops.toList nss) (hend : ∀ w, S w → AllV R w full fun l => Q .normal (rgPut a0 l) w) :
    ∀ (fuel : Nat) (listed : Array Bool) (vals : Nat → Value) (a : Act) (w : World), (List.range ops.size).countP (fun i => !listed.getD i false) ≤ fuel → Mid G R md ops a0 w0 listed vals a w → wpAny P md ops Q fuel listed a w := by
  have hdone : ∀ (listed : Array Bool) (vals : Nat → Value) (a : Act) (w : World), Mid G R md ops a0 w0 listed vals a w → (∀ i, i < ops.size → listed.getD i false = true) → Q .normal a w := by
    intro listed vals a w hm hall
    simp only [rgFull, Bool.and_eq_true, List.all_eq_true, decide_eq_true_eq, List.mem_range, Bool.or_eq_true, beq_iff_eq] at hfull
    obtain ⟨hf1, hf2⟩ := hfull
    have h := allV_get w vals full _ (hend w (hS w hm.grow)) (fun p hp' => hm.kept p.1 (hall p.1 (hf1 p hp').2))
    have e : rgPut a0 (full.map fun p => (p.2, vals p.1)) = a := by
      have hps := rgPut_size (full.map fun p => (p.2, vals p.1)) a0
      have ht : (rgPut a0 (full.map fun p => (p.2, vals p.1))).tmps = a.tmps := by
        apply Array.ext_getElem?
        intro t
        by_cases hin : ∃ i, i < ops.size ∧ rgDst ops i = some t
        · obtain ⟨i, hi, hit⟩ := hin
          rw [hm.got i t (hall i hi) hit]
          have h1 := List.all_eq_true.1 hds i (List.mem_range.2 hi)
          simp only [hit, Bool.and_eq_true, decide_eq_true_eq, List.all_eq_true, List.mem_range, Bool.or_eq_true, beq_iff_eq, bne_iff_ne] at h1
          have hmem : (i, some t) ∈ full := by
            have := hf2 i hi
            rw [hit] at this
            simpa using this
          refine rgPut_some _ _ _ _ (by rw [hn]; exact h1.1) ⟨(some t, vals i), List.mem_map.2 ⟨_, hmem, rfl⟩, rfl⟩ ?_
          intro q hq hqt
          obtain ⟨p', hp', rfl⟩ := List.mem_map.1 hq
          have hd' := hf1 p' hp'
          simp only at hqt ⊢
          by_cases e : p'.1 = i
          · rw [e]
          · exact absurd (hd'.1.symm.trans hqt) ((h1.2 p'.1 hd'.2).resolve_left e)
        · rw [rgPut_none _ _ _ (fun q hq e => by
            obtain ⟨p', hp', rfl⟩ := List.mem_map.1 hq
            have hd' := hf1 p' hp'
            exact hin ⟨p'.1, hd'.2, hd'.1.symm.trans e⟩)]
          refine (hm.rest t fun i hi e => ?_).symm
          have hilt : i < ops.size := by
            rcases Nat.lt_or_ge i ops.size with h | h
            · exact h
            · simp [rgDst, Array.getElem?_eq_none h] at e
          exact hin ⟨i, hilt, e⟩
      have hd : (rgPut a0 (full.map fun p => (p.2, vals p.1))).defers = a.defers := hps.2.trans hm.defers.symm
      generalize rgPut a0 (full.map fun p => (p.2, vals p.1)) = c at *
      cases c; cases a
      simp only at ht hd
      rw [ht, hd]
    rw [e] at h
    exact h
  -- where none may come up, all have come up
  have hready : ∀ (listed : Array Bool) (vals : Nat → Value) (a : Act) (w : World), Mid G R md ops a0 w0 listed vals a w → Region.ready md ops listed = [] → ∀ n i, i < n → i < ops.size → listed.getD i false = true := by
    intro listed vals a w hm h0 n
    induction n with
    | zero => intro i h; omega
    | succ n ih =>
      intro i hin hi
      cases hl : listed.getD i false with
      | true => rfl
      | false =>
        exfalso
        obtain ⟨o, ho⟩ : ∃ o, ops[i]? = some o := ⟨ops[i], by simp⟩
        have h1 := List.all_eq_true.1 hp i (List.mem_range.2 hi)
        simp only [ho, Bool.and_eq_true, List.all_eq_true, decide_eq_true_eq] at h1
        have : i ∈ Region.ready md ops listed := mem_ready.2 ⟨by
            have hil : i < listed.size := by rw [hm.lsize]; exact hi
            simp [hil] at hl ⊢; exact hl, o, ho, fun e he hb => by
            have hk : e.on ∈ rgDirs md o := List.mem_map.2 ⟨e, List.mem_filter.2 ⟨by simpa using he, hb⟩, rfl⟩
            have := h1.1 e.on hk
            exact ih e.on (by omega) (by omega)⟩
        rw [h0] at this
        cases this
  intro fuel
  induction fuel with
  | zero =>
    intro listed vals a w hc hm
    have hall : ∀ i, i < ops.size → listed.getD i false = true := by
      intro i hi
      have h0 : (List.range ops.size).countP (fun i => !listed.getD i false) = 0 := by omega
      have := List.countP_eq_zero.1 h0 i (List.mem_range.2 hi)
      simpa using this
    refine ⟨?_, hdone listed vals a w hm hall⟩
    cases hr : Region.ready md ops listed with
    | nil => rfl
    | cons i l =>
      exfalso
      have hi : i ∈ Region.ready md ops listed := by rw [hr]; exact List.mem_cons_self ..
      obtain ⟨hun, o, ho, _⟩ := mem_ready.1 hi
      have hlt : i < ops.size := (Array.getElem?_eq_some_iff.1 ho).1
      have h1 := hall i hlt
      have hil : i < listed.size := by rw [hm.lsize]; exact hlt
      simp [hil] at hun h1
      rw [hun] at h1
      cases h1
  | succ fuel ih =>
    intro listed vals a w hc hm
    refine ⟨fun h0 => hdone listed vals a w hm (fun i hi => hready listed vals a w hm h0 (i + 1) i (by omega) hi), fun i hi => ?_⟩
    refine wpOp_mono ?_ (mid_step hn hp hneed hds hsel hG2 hst hQ hS hsteps hm i hi)
    rintro a' w' ⟨vals', hm'⟩
    obtain ⟨hun, o, ho, _⟩ := mem_ready.1 hi
    have hlt : i < ops.size := (Array.getElem?_eq_some_iff.1 ho).1
    have hil : i < listed.size := by rw [hm.lsize]; exact hlt
    have hcnt := countP_less (l := List.range ops.size) (p := fun j => !listed.getD j false) (q := fun j => !(listed.setIfInBounds i true).getD j false) i (List.mem_range.2 hlt)
      (by simp [hil] at hun ⊢; exact hun) (by simp [hil]) (fun j hj => by
        by_cases e : i = j
        · subst e; simp [hil] at hj
        · rw [getD_set_ne false e] at hj; exact hj)
    exact ih _ vals' a' w' (by omega) hm'

/-- **THE LAW**: a region that draws its order, by promises. -/
theorem wp_region_rg {id : Nat} {a : Act} {w : World} (hm : P.follows .mixedOrders = true) (G : World → World → Prop) (S : World → Prop) (R : Nat → Value → World → Prop) (n : Nat) (nss : List (List (Nat × Option Tmp))) (full : List (Nat × Option Tmp))
    (hn : a.tmps.size = n) (hok : rgOk .any ops n nss full = true) (hG1 : ∀ a, G a a) (hG2 : ∀ a b c, G a b → G b c → G a c) (hst : ∀ i v w w', G w w' → R i v w → R i v w')
    (hQ : ∀ ch (a a' : Act) w, a.defers = a'.defers → Q (.panic ch) a w → Q (.panic ch) a' w) (hS : ∀ w', G w.drew w' → S w')
    (hsteps : Steps P ops Q G S R a 0 ops.toList nss) (hend : ∀ w', S w' → AllV R w' full fun l => Q .normal (rgPut a l) w') : (Code.region id ops true).wp P Q a w := by
  simp only [rgOk, Bool.and_eq_true] at hok
  obtain ⟨⟨⟨⟨h1, h2⟩, h3⟩, h4⟩, h5⟩ := hok
  have hf : ∀ i, (Array.replicate ops.size false).getD i false = false := fun i => by
    by_cases hi : i < ops.size <;> simp [hi]
  refine wp_region_any hm (mid_all hn h1 h2 h3 h4 h5 hG2 hst hQ hS hsteps hend ops.size _ (fun _ => undef) a _ (by
    have := List.countP_le_length (p := fun i => !(Array.replicate ops.size false).getD i false) (l := List.range ops.size)
    simpa using this) ?_)
  refine ⟨by simp, hG1 _, rfl, rfl, fun i o hi => ?_, fun i hi => ?_, fun i d hi => ?_, fun d _ => rfl⟩
  all_goals
    rw [hf i] at hi
    cases hi

theorem OpOk.off {i : Nat} {o : Oper} {w : World} {a : Act} (h1 : Region.wanted o (yielded ops a.tmps) = false) (h2 : R i undef w) : OpOk P ops Q G R i o w a := .inr ⟨h1, h2⟩
theorem OpOk.run {i : Nat} {o : Oper} {w : World} {a : Act} (h1 : Region.wanted o (yielded ops a.tmps) = true) (h2 : ∀ K : Act → World → Prop, Hid (∀ v w', G w w' → R i v w' → K (a.put o.dst v) w') → o.wp P a w K Q) : OpOk P ops Q G R i o w a := .inl ⟨h1, h2⟩

/-! ### The law as it is used: the promises as a list; what was there stays. -/

def rdP : List (Value → World → Prop) → Nat → Value → World → Prop
  | f :: _, 0 => f
  | _ :: l, n + 1 => rdP l n
  | [], _ => fun _ _ => True

/-- The plain promise: this very value. -/
def isV (x : Value) : Value → World → Prop := fun v _ => v = x

def StableL (G : World → World → Prop) : List (Value → World → Prop) → Prop
  | [] => True
  | f :: l => (∀ v w w', G w w' → f v w → f v w') ∧ StableL G l

theorem StableL.at : ∀ {l : List (Value → World → Prop)}, StableL G l → ∀ i v w w', G w w' → rdP l i v w → rdP l i v w'
  | [], _, _, _, _, _, _, _ => trivial
  | _ :: _, h, 0, v, w, w', hg, hr => h.1 v w w' hg hr
  | _ :: _, h, i + 1, v, w, w', hg, hr => StableL.at h.2 i v w w' hg hr

/-- Growth: all that was there stays. -/
def Grows (w w' : World) : Prop := Below w.heap.size w w'
theorem Grows.refl (w : World) : Grows w w := Below.refl _ _
theorem Grows.trans (a b c : World) (h : Grows a b) (k : Grows b c) : Grows a c := Below.trans h (Below.mono k (Below.size h))
theorem Grows.cell {w w' : World} (h : Grows w w') {p : Addr} {v : Value} (hc : w.cell? p = some v) : w'.cell? p = some v := (Below.cell h (lt_of_cell hc)).trans hc

theorem wp_region_grows {id : Nat} {a : Act} {w : World} (hm : P.follows .mixedOrders = true) (S : World → Prop) (rs : List (Value → World → Prop)) (n : Nat) (nss : List (List (Nat × Option Tmp))) (full : List (Nat × Option Tmp))
    (hn : a.tmps.size = n) (hok : rgOk .any ops n nss full = true) (hst : StableL Grows rs)
    (hQ : ∀ ch (a a' : Act) w, a.defers = a'.defers → Q (.panic ch) a w → Q (.panic ch) a' w) (hS : ∀ w', Grows w.drew w' → S w')
    (hsteps : Steps P ops Q Grows S (rdP rs) a 0 ops.toList nss) (hend : ∀ w', S w' → AllV (rdP rs) w' full fun l => Q .normal (rgPut a l) w') : (Code.region id ops true).wp P Q a w :=
  wp_region_rg hm Grows S (rdP rs) n nss full hn hok Grows.refl Grows.trans hst.at hQ hS hsteps hend

/-- The same, by any growth. -/
theorem wp_region_list {id : Nat} {a : Act} {w : World} {G : World → World → Prop} (hG1 : ∀ a, G a a) (hG2 : ∀ a b c, G a b → G b c → G a c) (hm : P.follows .mixedOrders = true) (S : World → Prop) (rs : List (Value → World → Prop)) (n : Nat) (nss : List (List (Nat × Option Tmp))) (full : List (Nat × Option Tmp))
    (hn : a.tmps.size = n) (hok : rgOk .any ops n nss full = true) (hst : StableL G rs)
    (hQ : ∀ ch (a a' : Act) w, a.defers = a'.defers → Q (.panic ch) a w → Q (.panic ch) a' w) (hS : ∀ w', G w.drew w' → S w')
    (hsteps : Steps P ops Q G S (rdP rs) a 0 ops.toList nss) (hend : ∀ w', S w' → AllV (rdP rs) w' full fun l => Q .normal (rgPut a l) w') : (Code.region id ops true).wp P Q a w :=
  wp_region_rg hm G S (rdP rs) n nss full hn hok hG1 hG2 hst.at hQ hS hsteps hend
end
end Go.Proofs.Ytilanncobbdlfaa
