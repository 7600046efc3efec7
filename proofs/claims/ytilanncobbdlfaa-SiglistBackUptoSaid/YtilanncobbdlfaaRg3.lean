/-
  A region that draws its order and ends by two operations that write what was there (an append and the store of what it answers): XRg's law for all that stands ahead of them, and two steps more. No condition; nothing of the program in sight.
-/
import Derived.Test.YtilanncobbdlfaaRg
namespace Go.Proofs.Ytilanncobbdlfaa
open Go Go.RowKit
set_option linter.unusedVariables false

section
variable {P : Program} {md : Region.Mode} {ops : Array Oper} {Q : Exit → Act → World → Prop} {G : World → World → Prop} {S : World → Prop} {R : Nat → Value → World → Prop}

/-- The state in the midst of the region, but for what the world holds. -/
structure Mid0 (md : Region.Mode) (ops : Array Oper) (a0 : Act) (listed : Array Bool) (vals : Nat → Value) (a : Act) : Prop where
  lsize : listed.size = ops.size
  defers : a.defers = a0.defers
  size : a.tmps.size = a0.tmps.size
  down : ∀ (i : Nat) o, listed.getD i false = true → ops[i]? = some o → ∀ k ∈ rgDirs md o, listed.getD k false = true
  got : ∀ i d, listed.getD i false = true → rgDst ops i = some d → a.tmps[d]? = some (vals i)
  rest : ∀ d, (∀ i, listed.getD i false = true → rgDst ops i ≠ some d) → a.tmps[d]? = a0.tmps[d]?

/-- What is ready waits for nothing. -/
theorem ready_pre {pre : List Nat} {a0 a : Act} {listed : Array Bool} {vals : Nat → Value} (hp : rgPreOk md ops pre = true) (hm : Mid0 md ops a0 listed vals a) {i : Nat} (hi : i ∈ Region.ready md ops listed) :
    i < ops.size ∧ listed.getD i false = false ∧ ∀ j, j < ops.size → (pre.getD i 0).testBit j = true → listed.getD j false = true := by
  obtain ⟨hun, o, ho, hall⟩ := mem_ready.1 hi
  have hlt : i < ops.size := (Array.getElem?_eq_some_iff.1 ho).1
  have hil : i < listed.size := by rw [hm.lsize]; exact hlt
  have hnl : listed.getD i false = false := by
    simp [hil] at hun ⊢; exact hun
  have hdir : ∀ k ∈ rgDirs md o, listed.getD k false = true := fun k hk => by
    unfold rgDirs at hk
    obtain ⟨e, he, rfl⟩ := List.mem_map.1 hk
    obtain ⟨he1, he2⟩ := List.mem_filter.1 he
    exact hall e (by simpa using he1) he2
  exact ⟨hlt, hnl, fun j hj hb => pre_listed hp hm.lsize hm.down (i + 1) i (by omega) o ho hdir j hj hb⟩
/-- What is listed has all that it waited for listed. -/
theorem listed_pre {pre : List Nat} {a0 a : Act} {listed : Array Bool} {vals : Nat → Value} (hp : rgPreOk md ops pre = true) (hm : Mid0 md ops a0 listed vals a) {i : Nat} (hlt : i < ops.size) (hi : listed.getD i false = true) :
    ∀ j, j < ops.size → (pre.getD i 0).testBit j = true → listed.getD j false = true := by
  obtain ⟨o, ho⟩ : ∃ o, ops[i]? = some o := ⟨ops[i], by simp⟩
  exact fun j hj hb => pre_listed hp hm.lsize hm.down (i + 1) i (by omega) o ho (hm.down i o hi ho) j hj hb
theorem need_pre {pre : List Nat} {nss : List (List (Nat × Option Tmp))} (hneed : rgNeeds ops pre 0 ops.toList nss = true) {i : Nat} {o : Oper} {ns : List (Nat × Option Tmp)} (ho : ops[i]? = some o) (hns : nss[i]? = some ns) : ∀ p ∈ ns, p.1 < ops.size ∧ (pre.getD i 0).testBit p.1 = true := by
  have hnd := needs_at pre ops.toList nss 0 hneed i o ns (by simpa using ho) hns
  rw [Nat.zero_add] at hnd
  simp only [rgNeed, Bool.and_eq_true, List.all_eq_true, decide_eq_true_eq, List.mem_range, beq_iff_eq] at hnd
  exact fun p hp' => ⟨(hnd.1 p hp').1.2, (hnd.1 p hp').2⟩

theorem mid_step0 {a0 : Act} {nss : List (List (Nat × Option Tmp))} {pre : List Nat} {listed : Array Bool} {vals : Nat → Value} {a : Act} {w : World} {n : Nat} (hn : a0.tmps.size = n)
    (hp : rgPreOk md ops pre = true) (hneed : rgNeeds ops pre 0 ops.toList nss = true) (hds : rgDsts ops n = true) (hsel : Region.noSelect ops = true)
    (hQ : ∀ ch (a a' : Act) w, a.defers = a'.defers → Q (.panic ch) a w → Q (.panic ch) a' w)
    (hm : Mid0 md ops a0 listed vals a) (i : Nat) (hi : i ∈ Region.ready md ops listed) (o : Oper) (ns : List (Nat × Option Tmp)) (ho : ops[i]? = some o) (hns : nss[i]? = some ns) (hok : OpOk P ops Q G R i o w (rgPut a0 (ns.map fun p => (p.2, vals p.1)))) :
    wpOp P ops Q i (fun a' w' => ∃ v, R i v w' ∧ (G w w' ∨ w' = w) ∧ Mid0 md ops a0 (listed.setIfInBounds i true) (fun j => if j = i then v else vals j) a') a w := by
  obtain ⟨hun, o', ho', hall⟩ := mem_ready.1 hi
  obtain rfl : o = o' := Option.some.inj (ho.symm.trans ho')
  have hlt : i < ops.size := (Array.getElem?_eq_some_iff.1 ho).1
  have hil : i < listed.size := by rw [hm.lsize]; exact hlt
  have hnl : listed.getD i false = false := by
    simp [hil] at hun ⊢; exact hun
  have hdir : ∀ k ∈ rgDirs md o, listed.getD k false = true := fun k hk => by
    unfold rgDirs at hk
    obtain ⟨e, he, rfl⟩ := List.mem_map.1 hk
    obtain ⟨he1, he2⟩ := List.mem_filter.1 he
    exact hall e (by simpa using he1) he2
  have hnd := needs_at pre ops.toList nss 0 hneed i o ns (by simpa using ho) hns
  rw [Nat.zero_add] at hnd
  simp only [rgNeed, Bool.and_eq_true, List.all_eq_true, decide_eq_true_eq, List.mem_range, beq_iff_eq] at hnd
  obtain ⟨hnd1, hnd2⟩ := hnd
  have hlst : ∀ p ∈ ns, listed.getD p.1 false = true := fun p hp' => pre_listed hp hm.lsize hm.down (i + 1) i (by omega) o ho hdir p.1 (hnd1 p hp').1.2 (hnd1 p hp').2
  have hdst : ∀ (j : Nat) d, rgDst ops j = some d → d < n ∧ ∀ k, k ≠ j → rgDst ops k ≠ some d := by
    intro j d hj
    have hjlt : j < ops.size := by
      rcases Nat.lt_or_ge j ops.size with h | h
      · exact h
      · simp [rgDst, Array.getElem?_eq_none h] at hj
    have h1 := List.all_eq_true.1 hds j (List.mem_range.2 hjlt)
    simp only [hj, Bool.and_eq_true, decide_eq_true_eq, List.all_eq_true, List.mem_range, Bool.or_eq_true, beq_iff_eq, bne_iff_ne] at h1
    refine ⟨h1.1, fun k hk e => ?_⟩
    have hklt : k < ops.size := by
      rcases Nat.lt_or_ge k ops.size with h | h
      · exact h
      · simp [rgDst, Array.getElem?_eq_none h] at e
    exact (h1.2 k hklt).resolve_left hk e
  have hoi : rgDst ops i = o.dst := by simp [rgDst, ho]
  -- the two states agree on what the operation looks at
  have hagree : ∀ t ∈ o.looksAt ops, (rgPut a0 (ns.map fun p => (p.2, vals p.1))).tmps[t]? = a.tmps[t]? := by
    intro t ht
    by_cases hin : ∃ p ∈ ns, p.2 = some t
    · obtain ⟨p, hpn, hpt⟩ := hin
      have hd := (hnd1 p hpn).1.1
      rw [hpt] at hd
      have htn := (hdst p.1 t hd.symm).1
      rw [hm.got p.1 t (hlst p hpn) hd.symm]
      refine rgPut_some _ _ _ _ (by rw [hn]; exact htn) ⟨(p.2, vals p.1), List.mem_map.2 ⟨p, hpn, rfl⟩, hpt⟩ ?_
      intro q hq hqt
      obtain ⟨p', hp', rfl⟩ := List.mem_map.1 hq
      have hd' := (hnd1 p' hp').1.1
      simp only at hqt ⊢
      rw [hqt] at hd'
      by_cases e : p'.1 = p.1
      · rw [e]
      · exact absurd hd'.symm ((hdst p.1 t hd.symm).2 p'.1 e)
    · rw [rgPut_none _ _ _ (fun q hq e => by
        obtain ⟨p', hp', rfl⟩ := List.mem_map.1 hq
        exact hin ⟨p', hp', e⟩)]
      refine (hm.rest t fun j hj e => ?_).symm
      have hjlt : j < ops.size := by
        rcases Nat.lt_or_ge j ops.size with h | h
        · exact h
        · simp [rgDst, Array.getElem?_eq_none h] at e
      have h1 := hnd2 j hjlt
      rw [e] at h1
      simp only [Bool.or_eq_true, Bool.not_eq_true', List.contains_iff_mem] at h1
      rcases h1 with (h1 | h1) | h1
      · have : (o.looksAt ops).contains t = true := by simpa using ht
        rw [this] at h1; cases h1
      · exact hin ⟨_, h1, rfl⟩
      · -- i stands ahead of j, which is listed already
        obtain ⟨oj, hoj⟩ : ∃ o, ops[j]? = some o := ⟨ops[j], by simp⟩
        have := pre_listed hp hm.lsize hm.down (j + 1) j (by omega) oj hoj (hm.down j oj hj hoj) i hlt h1
        rw [hnl] at this
        cases this
  have hev : ∀ x ∈ o.op.operands, (rgPut a0 (ns.map fun p => (p.2, vals p.1))).eval x = a.eval x := by
    intro x hx
    cases x with
    | tmp t =>
      have ht : t ∈ o.looksAt ops := List.mem_append_left _ (List.mem_filterMap.2 ⟨.tmp t, by simpa using hx, rfl⟩)
      rw [eval_tmp, eval_tmp, Array.getD_eq_getD_getElem?, Array.getD_eq_getD_getElem?, hagree t ht]
    | _ => rfl
  have hwant : Region.wanted o (yielded ops (rgPut a0 (ns.map fun p => (p.2, vals p.1))).tmps) = Region.wanted o (yielded ops a.tmps) := by
    unfold Region.wanted
    cases hg : o.guard with
    | none => rfl
    | some gw =>
      obtain ⟨g, want⟩ := gw
      have hy : yielded ops (rgPut a0 (ns.map fun p => (p.2, vals p.1))).tmps g = yielded ops a.tmps g := by
        unfold yielded
        cases ht : (ops[g]?).bind (·.dst) with
        | none => rfl
        | some t =>
          have := hagree t (by simp [Oper.looksAt, hg, ht])
          simp only [Option.bind_some, this]
      simp only [hy]
  have hps := rgPut_size (ns.map fun p => (p.2, vals p.1)) a0
  refine wpOp_mono ?_ (hok.at ho (Region.noSelect_spec hsel i o · · ho) hev hwant (by rw [hps.2, hm.defers]) (fun d hd => by rw [hps.1, hn]; exact (hdst i d (by rw [hoi]; exact hd)).1) hQ)
  rintro a' w' ⟨⟨v, rfl, hR⟩, hg⟩
  have hset : ∀ j, (listed.setIfInBounds i true).getD j false = true → j = i ∨ listed.getD j false = true := by
    intro j hj
    by_cases e : i = j
    · exact .inl e.symm
    · rw [getD_set_ne false e] at hj; exact .inr hj
  refine ⟨v, hR, hg, by simp [hm.lsize], ?_, ?_, ?_, ?_, ?_⟩
  · rw [← hm.defers]; cases o.dst <;> rfl
  · rw [← hm.size]; cases o.dst <;> simp [Act.put]
  · intro j oj hj hoj k hk
    rcases hset j hj with rfl | hj
    · obtain rfl : o = oj := Option.some.inj (ho.symm.trans hoj)
      exact getD_set_true (hdir k hk)
    · exact getD_set_true (hm.down j oj hj hoj k hk)
  · intro j d hj hjd
    by_cases e : j = i
    · subst e
      simp only [if_true]
      rw [hoi] at hjd
      rw [hjd]
      have := (hdst j d (by rw [hoi]; exact hjd)).1
      simp [Act.put, hm.size, hn, this]
    · rw [if_neg e]
      have h1 := hm.got j d ((hset j hj).resolve_left e) hjd
      cases hod : o.dst with
      | none => exact h1
      | some d' =>
        have hne : d' ≠ d := fun e' => (hdst i d' (by rw [hoi]; exact hod)).2 j e (by rw [e']; exact hjd)
        simp [Act.put, Array.getElem?_setIfInBounds_ne hne, h1]
  · intro d hno
    have hid : rgDst ops i ≠ some d := hno i (by simp [hil])
    have h1 := hm.rest d (fun j hj => hno j (getD_set_true hj))
    cases hod : o.dst with
    | none => exact h1
    | some d' =>
      have hne : d' ≠ d := fun e' => hid (by rw [hoi, hod, e'])
      simp [Act.put, Array.getElem?_setIfInBounds_ne hne, h1]


theorem mid_all0 {a0 : Act} {full : List (Nat × Option Tmp)} {pre : List Nat} {n : Nat} (Inv : Array Bool → (Nat → Value) → Act → World → Prop) (hn : a0.tmps.size = n)
    (hp : rgPreOk md ops pre = true) (hds : rgDsts ops n = true) (hfull : rgFull ops full = true)
    (hInv : ∀ listed vals a w, Inv listed vals a w → Mid0 md ops a0 listed vals a)
    (hstep : ∀ listed vals a w, Inv listed vals a w → ∀ i, i ∈ Region.ready md ops listed → wpOp P ops Q i (fun a' w' => ∃ vals', Inv (listed.setIfInBounds i true) vals' a' w') a w)
    (hend : ∀ (listed : Array Bool) (vals : Nat → Value) a w, Inv listed vals a w → (∀ i, i < ops.size → listed.getD i false = true) → Q .normal (rgPut a0 (full.map fun p => (p.2, vals p.1))) w) :
    ∀ (fuel : Nat) (listed : Array Bool) (vals : Nat → Value) (a : Act) (w : World), (List.range ops.size).countP (fun i => !listed.getD i false) ≤ fuel → Inv listed vals a w → wpAny P md ops Q fuel listed a w := by
  have hdone : ∀ (listed : Array Bool) (vals : Nat → Value) (a : Act) (w : World), Inv listed vals a w → (∀ i, i < ops.size → listed.getD i false = true) → Q .normal a w := by
    intro listed vals a w hm0 hall
    have hm := hInv _ _ _ _ hm0
    simp only [rgFull, Bool.and_eq_true, List.all_eq_true, decide_eq_true_eq, List.mem_range, Bool.or_eq_true, beq_iff_eq] at hfull
    obtain ⟨hf1, hf2⟩ := hfull
    have h := hend listed vals a w hm0 hall
    have e : rgPut a0 (full.map fun p => (p.2, vals p.1)) = a := by
      have hps := rgPut_size (full.map fun p => (p.2, vals p.1)) a0
      have ht : (rgPut a0 (full.map fun p => (p.2, vals p.1))).tmps = a.tmps := by
        apply Array.ext_getElem?
        intro t
        by_cases hin : ∃ i, i < ops.size ∧ rgDst ops i = some t
        · obtain ⟨i, hi, hit⟩ := hin
          rw [hm.got i t (hall i hi) hit]
          have h1 := List.all_eq_true.1 hds i (List.mem_range.2 hi)
          simp only [hit, Bool.and_eq_true, decide_eq_true_eq, List.all_eq_true, List.mem_range, Bool.or_eq_true, beq_iff_eq, bne_iff_ne] at h1
          have hmem : (i, some t) ∈ full := by
            have := hf2 i hi
            rw [hit] at this
            simpa using this
          refine rgPut_some _ _ _ _ (by rw [hn]; exact h1.1) ⟨(some t, vals i), List.mem_map.2 ⟨_, hmem, rfl⟩, rfl⟩ ?_
          intro q hq hqt
          obtain ⟨p', hp', rfl⟩ := List.mem_map.1 hq
          have hd' := hf1 p' hp'
          simp only at hqt ⊢
          by_cases e : p'.1 = i
          · rw [e]
          · exact absurd (hd'.1.symm.trans hqt) ((h1.2 p'.1 hd'.2).resolve_left e)
        · rw [rgPut_none _ _ _ (fun q hq e => by
            obtain ⟨p', hp', rfl⟩ := List.mem_map.1 hq
            have hd' := hf1 p' hp'
            exact hin ⟨p'.1, hd'.2, hd'.1.symm.trans e⟩)]
          refine (hm.rest t fun i hi e => ?_).symm
          have hilt : i < ops.size := by
            rcases Nat.lt_or_ge i ops.size with h | h
            · exact h
            · simp [rgDst, Array.getElem?_eq_none h] at e
          exact hin ⟨i, hilt, e⟩
      have hd : (rgPut a0 (full.map fun p => (p.2, vals p.1))).defers = a.defers := hps.2.trans hm.defers.symm
      generalize rgPut a0 (full.map fun p => (p.2, vals p.1)) = c at *
      cases c; cases a
      simp only at ht hd
      rw [ht, hd]
    rw [e] at h
    exact h
  -- where none may come up, all have come up
  have hready : ∀ (listed : Array Bool) (vals : Nat → Value) (a : Act) (w : World), Inv listed vals a w → Region.ready md ops listed = [] → ∀ n i, i < n → i < ops.size → listed.getD i false = true := by
    intro listed vals a w hm0 h0 n
    have hm := hInv _ _ _ _ hm0
    induction n with
    | zero => intro i h; omega
    | succ n ih =>
      intro i hin hi
      cases hl : listed.getD i false with
      | true => rfl
      | false =>
        exfalso
        obtain ⟨o, ho⟩ : ∃ o, ops[i]? = some o := ⟨ops[i], by simp⟩
        have h1 := List.all_eq_true.1 hp i (List.mem_range.2 hi)
        simp only [ho, Bool.and_eq_true, List.all_eq_true, decide_eq_true_eq] at h1
        have : i ∈ Region.ready md ops listed := mem_ready.2 ⟨by
            have hil : i < listed.size := by rw [hm.lsize]; exact hi
            simp [hil] at hl ⊢; exact hl, o, ho, fun e he hb => by
            have hk : e.on ∈ rgDirs md o := List.mem_map.2 ⟨e, List.mem_filter.2 ⟨by simpa using he, hb⟩, rfl⟩
            have := h1.1 e.on hk
            exact ih e.on (by omega) (by omega)⟩
        rw [h0] at this
        cases this
  intro fuel
  induction fuel with
  | zero =>
    intro listed vals a w hc hm0
    have hm := hInv _ _ _ _ hm0
    have hall : ∀ i, i < ops.size → listed.getD i false = true := by
      intro i hi
      have h0 : (List.range ops.size).countP (fun i => !listed.getD i false) = 0 := by omega
      have := List.countP_eq_zero.1 h0 i (List.mem_range.2 hi)
      simpa using this
    refine ⟨?_, hdone listed vals a w hm0 hall⟩
    cases hr : Region.ready md ops listed with
    | nil => rfl
    | cons i l =>
      exfalso
      have hi : i ∈ Region.ready md ops listed := by rw [hr]; exact List.mem_cons_self ..
      obtain ⟨hun, o, ho, _⟩ := mem_ready.1 hi
      have hlt : i < ops.size := (Array.getElem?_eq_some_iff.1 ho).1
      have h1 := hall i hlt
      have hil : i < listed.size := by rw [hm.lsize]; exact hlt
      simp [hil] at hun h1
      rw [hun] at h1
      cases h1
  | succ fuel ih =>
    intro listed vals a w hc hm0
    have hm := hInv _ _ _ _ hm0
    refine ⟨fun h0 => hdone listed vals a w hm0 (fun i hi => hready listed vals a w hm0 h0 (i + 1) i (by omega) hi), fun i hi => ?_⟩
    refine wpOp_mono ?_ (hstep listed vals a w hm0 i hi)
    rintro a' w' ⟨vals', hm'⟩
    obtain ⟨hun, o, ho, _⟩ := mem_ready.1 hi
    have hlt : i < ops.size := (Array.getElem?_eq_some_iff.1 ho).1
    have hil : i < listed.size := by rw [hm.lsize]; exact hlt
    have hcnt := countP_less (l := List.range ops.size) (p := fun j => !listed.getD j false) (q := fun j => !(listed.setIfInBounds i true).getD j false) i (List.mem_range.2 hlt)
      (by simp [hil] at hun ⊢; exact hun) (by simp [hil]) (fun j hj => by
        by_cases e : i = j
        · subst e; simp [hil] at hj
        · rw [getD_set_ne false e] at hj; exact hj)
    exact ih _ vals' a' w' (by omega) hm'


/-- The region ends by z and s, and f waits for nothing; all else stands ahead of z. -/
def tailOk (md : Region.Mode) (ops : Array Oper) (nss : List (List (Nat × Option Tmp))) (z s f : Nat) : Bool :=
  let pre := rgPre md ops.toList []
  decide (z < ops.size) && decide (s < ops.size) && decide (f < ops.size) && decide (z ≠ s) && decide (f ≠ z) && decide (f ≠ s) &&
  (List.range ops.size).all (fun i => i == z || i == s || i == f || (pre.getD z 0).testBit i) && (pre.getD s 0).testBit z && (pre.getD s 0).testBit f && (nss.getD f [(0, none)]).isEmpty && !(pre.getD z 0).testBit f && !(pre.getD z 0).testBit s
def StepsT (P : Program) (ops : Array Oper) (Q : Exit → Act → World → Prop) (G : World → World → Prop) (S : World → Prop) (R : Nat → Value → World → Prop) (z s f : Nat) (a0 : Act) : Nat → List Oper → List (List (Nat × Option Tmp)) → Prop
  | i, o :: os, ns :: nss => (i ≠ z → i ≠ s → i ≠ f → ∀ w, S w → AllV R w ns fun l => OpOk P ops Q G R i o w (rgPut a0 l)) ∧ StepsT P ops Q G S R z s f a0 (i + 1) os nss
  | _, [], _ => True
  | _, _ :: _, [] => False
theorem stepsT_at {z s f : Nat} (a0 : Act) : ∀ (os : List Oper) (nss : List (List (Nat × Option Tmp))) (i : Nat), StepsT P ops Q G S R z s f a0 i os nss → ∀ k o, os[k]? = some o → ∃ ns, nss[k]? = some ns ∧ (i + k ≠ z → i + k ≠ s → i + k ≠ f → ∀ w, S w → AllV R w ns fun l => OpOk P ops Q G R (i + k) o w (rgPut a0 l))
  | [], _, _, _, k, o, h => by simp at h
  | _ :: _, [], _, h, _, _, _ => h.elim
  | o :: os, ns :: nss, i, h, 0, o', ho => by
    simp only [List.getElem?_cons_zero, Option.some.injEq] at ho
    subst ho
    exact ⟨ns, rfl, h.1⟩
  | o :: os, ns :: nss, i, h, k + 1, o', ho => by
    obtain ⟨ns', h1, h2⟩ := stepsT_at a0 os nss (i + 1) h.2 k o' (by simpa using ho)
    refine ⟨ns', by simpa using h1, ?_⟩
    rw [show i + (k + 1) = i + 1 + k by omega]
    exact h2
/-- **THE LAW.** -/
theorem wp_region_tail {id : Nat} {a : Act} {w : World} (hm : P.follows .mixedOrders = true) (G : World → World → Prop) (S : World → Prop) (R : Nat → Value → World → Prop) (T : Value → World → Prop) (C : World → Prop) (z s f n : Nat) (nss : List (List (Nat × Option Tmp))) (full : List (Nat × Option Tmp))
    (hn : a.tmps.size = n) (hok : rgOk .any ops n nss full = true) (htl : tailOk .any ops nss z s f = true) (hG1 : ∀ a, G a a) (hG2 : ∀ a b c, G a b → G b c → G a c) (hst : ∀ i v w w', G w w' → R i v w → R i v w') (hf : ∀ v w w', R f v w → R f v w')
    (hQ : ∀ ch (a a' : Act) w, a.defers = a'.defers → Q (.panic ch) a w → Q (.panic ch) a' w) (hS : ∀ w', G w.drew w' → S w')
    (hsteps : StepsT P ops Q G S R z s f a 0 ops.toList nss)
    (hfree : ∀ o, ops[f]? = some o → ∀ w, OpOk P ops Q (fun w w' => w' = w) R f o w a)
    (hz : ∀ o ns, ops[z]? = some o → nss[z]? = some ns → ∀ w, S w → AllV R w ns fun l => OpOk P ops Q (fun _ _ => True) (fun _ v w' => T v w') z o w (rgPut a l))
    (hs : ∀ o ns, ops[s]? = some o → nss[s]? = some ns → ∀ w v u, T v w → R f u w → ∀ vals : Nat → Value, vals z = v → vals f = u → OpOk P ops Q (fun _ _ => True) (fun _ _ w' => C w') s o w (rgPut a (ns.map fun p => (p.2, vals p.1))))
    (hend : ∀ w', C w' → ∀ vals : Nat → Value, Q .normal (rgPut a (full.map fun p => (p.2, vals p.1))) w') : (Code.region id ops true).wp P Q a w := by
  simp only [rgOk, Bool.and_eq_true] at hok
  obtain ⟨⟨⟨⟨h1, h2⟩, h3⟩, h4⟩, h5⟩ := hok
  simp only [tailOk, Bool.and_eq_true, decide_eq_true_eq, List.all_eq_true, List.mem_range, Bool.or_eq_true, beq_iff_eq, Bool.not_eq_true'] at htl
  obtain ⟨⟨⟨⟨⟨⟨⟨⟨⟨⟨⟨hzl, hsl⟩, hfl⟩, hzs⟩, hfz⟩, hfs⟩, hall⟩, hsz⟩, hsf⟩, hfn⟩, hzf⟩, hzs2⟩ := htl
  have hff : ∀ i, (Array.replicate ops.size false).getD i false = false := fun i => by
    by_cases hi : i < ops.size <;> simp [hi]
  let Inv : Array Bool → (Nat → Value) → Act → World → Prop := fun listed vals b w' => Mid0 .any ops a listed vals b ∧
    ((listed.getD z false = false ∧ listed.getD s false = false ∧ G w.drew w' ∧ ∀ i, listed.getD i false = true → R i (vals i) w') ∨
     (listed.getD z false = true ∧ listed.getD s false = false ∧ T (vals z) w' ∧ (listed.getD f false = true → R f (vals f) w')) ∨
     (listed.getD s false = true ∧ C w'))
  have hin : ∀ {listed : Array Bool} {i : Nat}, listed.size = ops.size → i < ops.size → (listed.setIfInBounds i true).getD i false = true := fun hl hi => by simp [hl, hi]
  refine wp_region_any hm (mid_all0 (P := P) (md := .any) (ops := ops) (Q := Q) (a0 := a) (full := full) (pre := rgPre .any ops.toList []) (n := n) Inv hn h1 h3 h4 (fun _ _ _ _ h => h.1) ?_ ?_ ops.size _ (fun _ => undef) a _ (by
    have := List.countP_le_length (p := fun i => !(Array.replicate ops.size false).getD i false) (l := List.range ops.size)
    simpa using this) ?_)
  rotate_left 2
  · refine ⟨⟨by simp, rfl, rfl, fun i o hi => ?_, fun i d hi => ?_, fun d _ => rfl⟩, .inl ⟨hff z, hff s, hG1 _, fun i hi => ?_⟩⟩
    all_goals
      rw [hff i] at hi
      cases hi
  rotate_left
  · rintro listed vals b w' ⟨hm0, hph⟩ hal
    rcases hph with ⟨e, _⟩ | ⟨_, e, _⟩ | ⟨_, hc⟩
    · rw [hal z hzl] at e; cases e
    · rw [hal s hsl] at e; cases e
    · exact hend w' hc vals
  rintro listed vals b w' ⟨hm0, hph⟩ i hi
  obtain ⟨hil, hiu, hip⟩ := ready_pre h1 hm0 hi
  obtain ⟨o, ho⟩ : ∃ o, ops[i]? = some o := ⟨ops[i], by simp⟩
  obtain ⟨ns, hns, hst0⟩ := stepsT_at a ops.toList nss 0 hsteps i o (by simpa using ho)
  rw [Nat.zero_add] at hst0
  have hne : ∀ p ∈ ns, listed.getD p.1 false = true := fun p hp => by
    obtain ⟨q1, q2⟩ := need_pre h2 ho hns p hp
    exact hip p.1 q1 q2
  by_cases hiz : i = z
  · subst hiz
    -- the append
    have hsu : listed.getD s false = false := by
      cases e : listed.getD s false with
      | false => rfl
      | true =>
        have := listed_pre h1 hm0 hsl e i hil hsz
        rw [hiu] at this; cases this
    rcases hph with ⟨_, _, hg, hk⟩ | ⟨e, _⟩ | ⟨e, _⟩
    · have hok := allV_get w' vals ns _ (hz o ns ho hns w' (hS w' hg)) (fun p hp => hk p.1 (hne p hp))
      refine wpOp_mono ?_ (mid_step0 hn h1 h2 h3 h5 hQ hm0 i hi o ns ho hns hok)
      rintro b' w2 ⟨v, hv, _, hmm⟩
      refine ⟨_, hmm, .inr (.inl ⟨hin hm0.lsize hil, by rw [getD_set_ne false hzs]; exact hsu, by simpa using hv, fun hfl2 => ?_⟩)⟩
      rw [getD_set_ne false (fun e => hfz e.symm)] at hfl2
      show R f (if f = i then v else vals f) w2
      rw [if_neg hfz]
      exact hf _ _ _ (hk f hfl2)
    · rw [hiu] at e; cases e
    · rw [hsu] at e; cases e
  by_cases his : i = s
  · subst his
    have hzt := hip z hzl hsz
    have hft := hip f hfl hsf
    rcases hph with ⟨e, _⟩ | ⟨_, _, ht, hfr⟩ | ⟨e, _⟩
    · rw [hzt] at e; cases e
    · refine wpOp_mono ?_ (mid_step0 hn h1 h2 h3 h5 hQ hm0 i hi o ns ho hns (hs o ns ho hns w' (vals z) (vals f) ht (hfr hft) vals rfl rfl))
      rintro b' w2 ⟨v, hv, _, hmm⟩
      exact ⟨_, hmm, .inr (.inr ⟨hin hm0.lsize hil, hv⟩)⟩
    · rw [hiu] at e; cases e
  have hsu : i = f ∨ listed.getD s false = false := by
    by_cases e : i = f
    · exact .inl e
    · right
      cases e2 : listed.getD s false with
      | false => rfl
      | true =>
        have h6 := listed_pre h1 hm0 hsl e2 z hzl hsz
        have h7 := listed_pre h1 hm0 hzl h6 i hil ((((hall i hil).resolve_left (by
          rintro ((e | e) | e)
          · exact hiz e
          · exact his e
          · contradiction))))
        rw [hiu] at h7; cases h7
  by_cases hif : i = f
  · subst hif
    have hns0 : ns = [] := by
      have : nss.getD i [(0, none)] = ns := by simp [List.getD, hns]
      rw [this] at hfn
      simpa using hfn
    subst hns0
    refine wpOp_mono ?_ (mid_step0 hn h1 h2 h3 h5 hQ hm0 i hi o [] ho hns (hfree o ho w'))
    rintro b' w2 ⟨v, hv, hw, hmm⟩
    obtain rfl : w2 = w' := by rcases hw with hw | hw <;> exact hw
    refine ⟨_, hmm, ?_⟩
    rcases hph with ⟨e1, e2, hg, hk⟩ | ⟨e1, e2, ht, hfr⟩ | ⟨e, _⟩
    · refine .inl ⟨by rw [getD_set_ne false hfz]; exact e1, by rw [getD_set_ne false hfs]; exact e2, hg, fun j hj => ?_⟩
      by_cases e : j = i
      · subst e; simp only [if_true]; exact hv
      · rw [getD_set_ne false (fun e' => e e'.symm)] at hj
        simp only [e, if_false]
        exact hk j hj
    · refine .inr (.inl ⟨by rw [getD_set_ne false hfz]; exact e1, by rw [getD_set_ne false hfs]; exact e2, ?_, fun _ => ?_⟩)
      · show T (if z = i then v else vals z) w2
        rw [if_neg (fun e' => hfz e'.symm)]; exact ht
      · show R i (if i = i then v else vals i) w2
        rw [if_pos rfl]; exact hv
    · have := listed_pre h1 hm0 hsl e i hil hsf
      rw [hiu] at this; cases this
  -- all else
  have hpz : ((rgPre .any ops.toList []).getD z 0).testBit i = true := (hall i hil).resolve_left (by
    rintro ((e | e) | e)
    · exact hiz e
    · exact his e
    · exact hif e)
  have hzu : listed.getD z false = false := by
    cases e2 : listed.getD z false with
    | false => rfl
    | true =>
      have h7 := listed_pre h1 hm0 hzl e2 i hil hpz
      rw [hiu] at h7; cases h7
  have hsu := hsu.resolve_left hif
  rcases hph with ⟨_, _, hg, hk⟩ | ⟨e, _⟩ | ⟨e, _⟩
  · have hok := allV_get w' vals ns _ (hst0 hiz his hif w' (hS w' hg)) (fun p hp => hk p.1 (hne p hp))
    refine wpOp_mono ?_ (mid_step0 hn h1 h2 h3 h5 hQ hm0 i hi o ns ho hns hok)
    rintro b' w2 ⟨v, hv, hw, hmm⟩
    refine ⟨_, hmm, .inl ⟨by rw [getD_set_ne false hiz]; exact hzu, by rw [getD_set_ne false his]; exact hsu, ?_, fun j hj => ?_⟩⟩
    · rcases hw with hw | rfl
      · exact hG2 _ _ _ hg hw
      · exact hg
    · by_cases e : j = i
      · subst e; simp only [if_true]; exact hv
      · rw [getD_set_ne false (fun e' => e e'.symm)] at hj
        simp only [e, if_false]
        rcases hw with hw | rfl
        · exact hst _ _ _ _ hw (hk j hj)
        · exact hk j hj
  · rw [hzu] at e; cases e
  · rw [hsu] at e; cases e
end
end Go.Proofs.Ytilanncobbdlfaa
