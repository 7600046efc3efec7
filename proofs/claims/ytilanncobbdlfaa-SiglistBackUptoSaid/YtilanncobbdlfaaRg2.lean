/-
  XRg's law with one link more: behind operation z there holds a statement that speaks of the value of operation y (a store into what an earlier operation of the same region has made).
-/
import Derived.Test.YtilanncobbdlfaaRg
namespace Go.Proofs.Ytilanncobbdlfaa
open Go Go.RowKit

section
variable {P : Program} {md : Region.Mode} {ops : Array Oper} {Q : Exit → Act → World → Prop} {G : World → World → Prop} {S : World → Prop} {R : Nat → Value → World → Prop} {T : Value → World → Prop} {y z : Nat}

theorem OpOk.mono {R R' : Nat → Value → World → Prop} {i : Nat} {o : Oper} {w : World} {a : Act} (h : OpOk P ops Q G R i o w a) (hR : ∀ v w', R i v w' → R' i v w') : OpOk P ops Q G R' i o w a := by
  rcases h with ⟨h1, h2⟩ | ⟨h1, h2⟩
  · exact .inl ⟨h1, fun K hK => h2 K (Lib.hid (fun v w' hg hr => hK.out v w' hg (hR v w' hr)))⟩
  · exact .inr ⟨h1, hR _ _ h2⟩
/-- The state in the midst of the region, and the link. -/
structure Mid2 (G : World → World → Prop) (R : Nat → Value → World → Prop) (T : Value → World → Prop) (y z : Nat) (md : Region.Mode) (ops : Array Oper) (a0 : Act) (w0 : World) (listed : Array Bool) (vals : Nat → Value) (a : Act) (w : World) : Prop where
  mid : Mid G R md ops a0 w0 listed vals a w
  link : listed.getD z false = true → listed.getD y false = true ∧ T (vals y) w

theorem mid_step2 {a0 : Act} {w0 : World} {nss : List (List (Nat × Option Tmp))} {pre : List Nat} {listed : Array Bool} {vals : Nat → Value} {a : Act} {w : World} {n : Nat} (hn : a0.tmps.size = n)
    (hp : rgPreOk md ops pre = true) (hneed : rgNeeds ops pre 0 ops.toList nss = true) (hds : rgDsts ops n = true) (hsel : Region.noSelect ops = true)
    (hG2 : ∀ a b c, G a b → G b c → G a c) (hst : ∀ i v w w', G w w' → R i v w → R i v w') (hQ : ∀ ch (a a' : Act) w, a.defers = a'.defers → Q (.panic ch) a w → Q (.panic ch) a' w)
    (hS : ∀ w, G w0 w → S w) (hsteps : Steps P ops Q G S R a0 0 ops.toList nss) (hT : ∀ v w w', G w w' → T v w → T v w') (hyz : ∀ ns, nss[z]? = some ns → ∃ p ∈ ns, p.1 = y)
    (hz : ∀ o ns, ops[z]? = some o → nss[z]? = some ns → ∀ w, S w → ∀ vals : Nat → Value, (∀ p ∈ ns, R p.1 (vals p.1) w) → OpOk P ops Q G (fun i v w' => R i v w' ∧ T (vals y) w') z o w (rgPut a0 (ns.map fun p => (p.2, vals p.1)))) (hmm : Mid2 G R T y z md ops a0 w0 listed vals a w) (i : Nat) (hi : i ∈ Region.ready md ops listed) :
    wpOp P ops Q i (fun a' w' => ∃ vals', Mid2 G R T y z md ops a0 w0 (listed.setIfInBounds i true) vals' a' w') a w := by
  have hm := hmm.mid
  obtain ⟨hun, o, ho, hall⟩ := mem_ready.1 hi
  have hlt : i < ops.size := (Array.getElem?_eq_some_iff.1 ho).1
  have hil : i < listed.size := by rw [hm.lsize]; exact hlt
  have hnl : listed.getD i false = false := by
    simp [hil] at hun ⊢; exact hun
  have hdir : ∀ k ∈ rgDirs md o, listed.getD k false = true := fun k hk => by
    unfold rgDirs at hk
    obtain ⟨e, he, rfl⟩ := List.mem_map.1 hk
    obtain ⟨he1, he2⟩ := List.mem_filter.1 he
    exact hall e (by simpa using he1) he2
  obtain ⟨ns, hns, hok⟩ := steps_at a0 ops.toList nss 0 hsteps i o (by simpa using ho)
  have hnd := needs_at pre ops.toList nss 0 hneed i o ns (by simpa using ho) hns
  rw [Nat.zero_add] at hok hnd
  simp only [rgNeed, Bool.and_eq_true, List.all_eq_true, decide_eq_true_eq, List.mem_range, beq_iff_eq] at hnd
  obtain ⟨hnd1, hnd2⟩ := hnd
  have hlst : ∀ p ∈ ns, listed.getD p.1 false = true := fun p hp' => pre_listed hp hm.lsize hm.down (i + 1) i (by omega) o ho hdir p.1 (hnd1 p hp').1.2 (hnd1 p hp').2
  have hok : OpOk P ops Q G (fun i' v w' => R i' v w' ∧ (i' = z → listed.getD y false = true ∧ T (vals y) w')) i o w (rgPut a0 (ns.map fun p => (p.2, vals p.1))) := by
    by_cases e : i = z
    · subst e
      obtain ⟨p, hpn, hpy⟩ := hyz ns hns
      have hy : listed.getD y false = true := by rw [← hpy]; exact hlst p hpn
      exact (hz o ns ho hns w (hS w hm.grow) vals (fun p hp' => hm.kept p.1 (hlst p hp'))).mono (fun v w' h => ⟨h.1, fun _ => ⟨hy, h.2⟩⟩)
    · exact (allV_get w vals ns _ (hok w (hS w hm.grow)) (fun p hp' => hm.kept p.1 (hlst p hp'))).mono (fun v w' h => ⟨h, fun e' => absurd e' e⟩)
  have hdst : ∀ (j : Nat) d, rgDst ops j = some d → d < n ∧ ∀ k, k ≠ j → rgDst ops k ≠ some d := by
    intro j d hj
    have hjlt : j < ops.size := by
      rcases Nat.lt_or_ge j ops.size with h | h
      · exact h
      · simp [rgDst, Array.getElem?_eq_none h] at hj
    have h1 := List.all_eq_true.1 hds j (List.mem_range.2 hjlt)
    simp only [hj, Bool.and_eq_true, decide_eq_true_eq, List.all_eq_true, List.mem_range, Bool.or_eq_true, beq_iff_eq, bne_iff_ne] at h1
    refine ⟨h1.1, fun k hk e => ?_⟩
    have hklt : k < ops.size := by
      rcases Nat.lt_or_ge k ops.size with h | h
      · exact h
      · simp [rgDst, Array.getElem?_eq_none h] at e
    exact (h1.2 k hklt).resolve_left hk e
  have hoi : rgDst ops i = o.dst := by simp [rgDst, ho]
  -- the two states agree on what the operation looks at
  have hagree : ∀ t ∈ o.looksAt ops, (rgPut a0 (ns.map fun p => (p.2, vals p.1))).tmps[t]? = a.tmps[t]? := by
    intro t ht
    by_cases hin : ∃ p ∈ ns, p.2 = some t
    · obtain ⟨p, hpn, hpt⟩ := hin
      have hd := (hnd1 p hpn).1.1
      rw [hpt] at hd
      have htn := (hdst p.1 t hd.symm).1
      rw [hm.got p.1 t (hlst p hpn) hd.symm]
      refine rgPut_some _ _ _ _ (by rw [hn]; exact htn) ⟨(p.2, vals p.1), List.mem_map.2 ⟨p, hpn, rfl⟩, hpt⟩ ?_
      intro q hq hqt
      obtain ⟨p', hp', rfl⟩ := List.mem_map.1 hq
      have hd' := (hnd1 p' hp').1.1
      simp only at hqt ⊢
      rw [hqt] at hd'
      by_cases e : p'.1 = p.1
      · rw [e]
      · exact absurd hd'.symm ((hdst p.1 t hd.symm).2 p'.1 e)
    · rw [rgPut_none _ _ _ (fun q hq e => by
        obtain ⟨p', hp', rfl⟩ := List.mem_map.1 hq
        exact hin ⟨p', hp', e⟩)]
      refine (hm.rest t fun j hj e => ?_).symm
      have hjlt : j < ops.size := by
        rcases Nat.lt_or_ge j ops.size with h | h
        · exact h
        · simp [rgDst, Array.getElem?_eq_none h] at e
      have h1 := hnd2 j hjlt
      rw [e] at h1
      simp only [Bool.or_eq_true, Bool.not_eq_true', List.contains_iff_mem] at h1
      rcases h1 with (h1 | h1) | h1
      · have : (o.looksAt ops).contains t = true := by simpa using ht
        rw [this] at h1; cases h1
      · exact hin ⟨_, h1, rfl⟩
      · -- i stands ahead of j, which is listed already
        obtain ⟨oj, hoj⟩ : ∃ o, ops[j]? = some o := ⟨ops[j], by simp⟩
        have := pre_listed hp hm.lsize hm.down (j + 1) j (by omega) oj hoj (hm.down j oj hj hoj) i hlt h1
        rw [hnl] at this
        cases this
  have hev : ∀ x ∈ o.op.operands, (rgPut a0 (ns.map fun p => (p.2, vals p.1))).eval x = a.eval x := by
    intro x hx
    cases x with
    | tmp t =>
      have ht : t ∈ o.looksAt ops := List.mem_append_left _ (List.mem_filterMap.2 ⟨.tmp t, by simpa using hx, rfl⟩)
      rw [eval_tmp, eval_tmp, Array.getD_eq_getD_getElem?, Array.getD_eq_getD_getElem?, hagree t ht]
    | _ => rfl
  have hwant : Region.wanted o (yielded ops (rgPut a0 (ns.map fun p => (p.2, vals p.1))).tmps) = Region.wanted o (yielded ops a.tmps) := by
    unfold Region.wanted
    cases hg : o.guard with
    | none => rfl
    | some gw =>
      obtain ⟨g, want⟩ := gw
      have hy : yielded ops (rgPut a0 (ns.map fun p => (p.2, vals p.1))).tmps g = yielded ops a.tmps g := by
        unfold yielded
        cases ht : (ops[g]?).bind (·.dst) with
        | none => rfl
        | some t =>
          have := hagree t (by simp [Oper.looksAt, hg, ht])
          simp only [Option.bind_some, this]
      simp only [hy]
  have hps := rgPut_size (ns.map fun p => (p.2, vals p.1)) a0
  refine wpOp_mono ?_ (hok.at ho (Region.noSelect_spec hsel i o · · ho) hev hwant (by rw [hps.2, hm.defers]) (fun d hd => by rw [hps.1, hn]; exact (hdst i d (by rw [hoi]; exact hd)).1) hQ)
  rintro a' w' ⟨⟨v, rfl, hR, hL⟩, hg⟩
  have hgr : G w0 w' := by
    rcases hg with hg | rfl
    · exact hG2 _ _ _ hm.grow hg
    · exact hm.grow
  have hset : ∀ j, (listed.setIfInBounds i true).getD j false = true → j = i ∨ listed.getD j false = true := by
    intro j hj
    by_cases e : i = j
    · exact .inl e.symm
    · rw [getD_set_ne false e] at hj; exact .inr hj
  refine ⟨fun j => if j = i then v else vals j, ⟨by simp [hm.lsize], hgr, ?_, ?_, ?_, ?_, ?_, ?_⟩, ?_⟩
  rotate_right
  · intro hzl
    have hup : ∀ j, listed.getD j false = true → (listed.setIfInBounds i true).getD j false = true := fun j hj => by
      by_cases e : i = j
      · subst e; exact absurd hj (by rw [hnl]; simp)
      · rw [getD_set_ne false e]; exact hj
    have hny : ∀ {j}, listed.getD j false = true → j ≠ i := fun {j} hj e => by subst e; rw [hnl] at hj; cases hj
    by_cases e : i = z
    · obtain ⟨h1, h2⟩ := hL e
      refine ⟨hup y h1, ?_⟩
      simp only [if_neg (hny h1)]
      exact h2
    · obtain ⟨h1, h2⟩ := hmm.link (((hset z hzl).resolve_left (fun e' => e e'.symm)))
      refine ⟨hup y h1, ?_⟩
      simp only [if_neg (hny h1)]
      rcases hg with hg | rfl
      · exact hT _ _ _ hg h2
      · exact h2
  · rw [← hm.defers]; cases o.dst <;> rfl
  · rw [← hm.size]; cases o.dst <;> simp [Act.put]
  · intro j oj hj hoj k hk
    rcases hset j hj with rfl | hj
    · obtain rfl : o = oj := Option.some.inj (ho.symm.trans hoj)
      exact getD_set_true (hdir k hk)
    · exact getD_set_true (hm.down j oj hj hoj k hk)
  · intro j hj
    by_cases e : j = i
    · subst e; simp only [if_true]; exact hR
    · rw [if_neg e]
      have h1 := hm.kept j ((hset j hj).resolve_left e)
      rcases hg with hg | rfl
      · exact hst _ _ _ _ hg h1
      · exact h1
  · intro j d hj hjd
    by_cases e : j = i
    · subst e
      simp only [if_true]
      rw [hoi] at hjd
      rw [hjd]
      have := (hdst j d (by rw [hoi]; exact hjd)).1
      simp [Act.put, hm.size, hn, this]
    · rw [if_neg e]
      have h1 := hm.got j d ((hset j hj).resolve_left e) hjd
      cases hod : o.dst with
      | none => exact h1
      | some d' =>
        have hne : d' ≠ d := fun e' => (hdst i d' (by rw [hoi]; exact hod)).2 j e (by rw [e']; exact hjd)
        simp [Act.put, Array.getElem?_setIfInBounds_ne hne, h1]
  · intro d hno
    have hid : rgDst ops i ≠ some d := hno i (by simp [hil])
    have h1 := hm.rest d (fun j hj => hno j (getD_set_true hj))
    cases hod : o.dst with
    | none => exact h1
    | some d' =>
      have hne : d' ≠ d := fun e' => hid (by rw [hoi, hod, e'])
      simp [Act.put, Array.getElem?_setIfInBounds_ne hne, h1]

theorem mid_all2 {a0 : Act} {w0 : World} {nss : List (List (Nat × Option Tmp))} {full : List (Nat × Option Tmp)} {pre : List Nat} {n : Nat} (hn : a0.tmps.size = n)
    (hp : rgPreOk md ops pre = true) (hneed : rgNeeds ops pre 0 ops.toList nss = true) (hds : rgDsts ops n = true) (hfull : rgFull ops full = true) (hsel : Region.noSelect ops = true)
    (hG2 : ∀ a b c, G a b → G b c → G a c) (hst : ∀ i v w w', G w w' → R i v w → R i v w') (hQ : ∀ ch (a a' : Act) w, a.defers = a'.defers → Q (.panic ch) a w → Q (.panic ch) a' w)
    (hS : ∀ w, G w0 w → S w) (hsteps : Steps P ops Q G S R a0 0 ops.toList nss) (hT : ∀ v w w', G w w' → T v w → T v w') (hyz : ∀ ns, nss[z]? = some ns → ∃ p ∈ ns, p.1 = y) (hzs : z < ops.size)
    (hz : ∀ o ns, ops[z]? = some o → nss[z]? = some ns → ∀ w, S w → ∀ vals : Nat → Value, (∀ p ∈ ns, R p.1 (vals p.1) w) → OpOk P ops Q G (fun i v w' => R i v w' ∧ T (vals y) w') z o w (rgPut a0 (ns.map fun p => (p.2, vals p.1)))) (hend : ∀ w, S w → ∀ vals : Nat → Value, (∀ p ∈ full, R p.1 (vals p.1) w) → T (vals y) w → Q .normal (rgPut a0 (full.map fun p => (p.2, vals p.1))) w) :
    ∀ (fuel : Nat) (listed : Array Bool) (vals : Nat → Value) (a : Act) (w : World), (List.range ops.size).countP (fun i => !listed.getD i false) ≤ fuel → Mid2 G R T y z md ops a0 w0 listed vals a w → wpAny P md ops Q fuel listed a w := by
  have hdone : ∀ (listed : Array Bool) (vals : Nat → Value) (a : Act) (w : World), Mid2 G R T y z md ops a0 w0 listed vals a w → (∀ i, i < ops.size → listed.getD i false = true) → Q .normal a w := by
    intro listed vals a w hmm hall
    have hm := hmm.mid
    simp only [rgFull, Bool.and_eq_true, List.all_eq_true, decide_eq_true_eq, List.mem_range, Bool.or_eq_true, beq_iff_eq] at hfull
    obtain ⟨hf1, hf2⟩ := hfull
    have h := hend w (hS w hm.grow) vals (fun p hp' => hm.kept p.1 (hall p.1 (hf1 p hp').2)) (hmm.link (hall z hzs)).2
    have e : rgPut a0 (full.map fun p => (p.2, vals p.1)) = a := by
      have hps := rgPut_size (full.map fun p => (p.2, vals p.1)) a0
      have ht : (rgPut a0 (full.map fun p => (p.2, vals p.1))).tmps = a.tmps := by
        apply Array.ext_getElem?
        intro t
        by_cases hin : ∃ i, i < ops.size ∧ rgDst ops i = some t
        · obtain ⟨i, hi, hit⟩ := hin
          rw [hm.got i t (hall i hi) hit]
          have h1 := List.all_eq_true.1 hds i (List.mem_range.2 hi)
          simp only [hit, Bool.and_eq_true, decide_eq_true_eq, List.all_eq_true, List.mem_range, Bool.or_eq_true, beq_iff_eq, bne_iff_ne] at h1
          have hmem : (i, some t) ∈ full := by
            have := hf2 i hi
            rw [hit] at this
            simpa using this
          refine rgPut_some _ _ _ _ (by rw [hn]; exact h1.1) ⟨(some t, vals i), List.mem_map.2 ⟨_, hmem, rfl⟩, rfl⟩ ?_
          intro q hq hqt
          obtain ⟨p', hp', rfl⟩ := List.mem_map.1 hq
          have hd' := hf1 p' hp'
          simp only at hqt ⊢
          by_cases e : p'.1 = i
          · rw [e]
          · exact absurd (hd'.1.symm.trans hqt) ((h1.2 p'.1 hd'.2).resolve_left e)
        · rw [rgPut_none _ _ _ (fun q hq e => by
            obtain ⟨p', hp', rfl⟩ := List.mem_map.1 hq
            have hd' := hf1 p' hp'
            exact hin ⟨p'.1, hd'.2, hd'.1.symm.trans e⟩)]
          refine (hm.rest t fun i hi e => ?_).symm
          have hilt : i < ops.size := by
            rcases Nat.lt_or_ge i ops.size with h | h
            · exact h
            · simp [rgDst, Array.getElem?_eq_none h] at e
          exact hin ⟨i, hilt, e⟩
      have hd : (rgPut a0 (full.map fun p => (p.2, vals p.1))).defers = a.defers := hps.2.trans hm.defers.symm
      generalize rgPut a0 (full.map fun p => (p.2, vals p.1)) = c at *
      cases c; cases a
      simp only at ht hd
      rw [ht, hd]
    rw [e] at h
    exact h
  -- where none may come up, all have come up
  have hready : ∀ (listed : Array Bool) (vals : Nat → Value) (a : Act) (w : World), Mid2 G R T y z md ops a0 w0 listed vals a w → Region.ready md ops listed = [] → ∀ n i, i < n → i < ops.size → listed.getD i false = true := by
    intro listed vals a w hmm h0 n
    have hm := hmm.mid
    induction n with
    | zero => intro i h; omega
    | succ n ih =>
      intro i hin hi
      cases hl : listed.getD i false with
      | true => rfl
      | false =>
        exfalso
        obtain ⟨o, ho⟩ : ∃ o, ops[i]? = some o := ⟨ops[i], by simp⟩
        have h1 := List.all_eq_true.1 hp i (List.mem_range.2 hi)
        simp only [ho, Bool.and_eq_true, List.all_eq_true, decide_eq_true_eq] at h1
        have : i ∈ Region.ready md ops listed := mem_ready.2 ⟨by
            have hil : i < listed.size := by rw [hm.lsize]; exact hi
            simp [hil] at hl ⊢; exact hl, o, ho, fun e he hb => by
            have hk : e.on ∈ rgDirs md o := List.mem_map.2 ⟨e, List.mem_filter.2 ⟨by simpa using he, hb⟩, rfl⟩
            have := h1.1 e.on hk
            exact ih e.on (by omega) (by omega)⟩
        rw [h0] at this
        cases this
  intro fuel
  induction fuel with
  | zero =>
    intro listed vals a w hc hm
    have hall : ∀ i, i < ops.size → listed.getD i false = true := by
      intro i hi
      have h0 : (List.range ops.size).countP (fun i => !listed.getD i false) = 0 := by omega
      have := List.countP_eq_zero.1 h0 i (List.mem_range.2 hi)
      simpa using this
    refine ⟨?_, hdone listed vals a w hm hall⟩
    cases hr : Region.ready md ops listed with
    | nil => rfl
    | cons i l =>
      exfalso
      have hi : i ∈ Region.ready md ops listed := by rw [hr]; exact List.mem_cons_self ..
      obtain ⟨hun, o, ho, _⟩ := mem_ready.1 hi
      have hlt : i < ops.size := (Array.getElem?_eq_some_iff.1 ho).1
      have h1 := hall i hlt
      have hil : i < listed.size := by rw [hm.mid.lsize]; exact hlt
      simp [hil] at hun h1
      rw [hun] at h1
      cases h1
  | succ fuel ih =>
    intro listed vals a w hc hm
    refine ⟨fun h0 => hdone listed vals a w hm (fun i hi => hready listed vals a w hm h0 (i + 1) i (by omega) hi), fun i hi => ?_⟩
    refine wpOp_mono ?_ (mid_step2 hn hp hneed hds hsel hG2 hst hQ hS hsteps hT hyz hz hm i hi)
    rintro a' w' ⟨vals', hm'⟩
    obtain ⟨hun, o, ho, _⟩ := mem_ready.1 hi
    have hlt : i < ops.size := (Array.getElem?_eq_some_iff.1 ho).1
    have hil : i < listed.size := by rw [hm.mid.lsize]; exact hlt
    have hcnt := countP_less (l := List.range ops.size) (p := fun j => !listed.getD j false) (q := fun j => !(listed.setIfInBounds i true).getD j false) i (List.mem_range.2 hlt)
      (by simp [hil] at hun ⊢; exact hun) (by simp [hil]) (fun j hj => by
        by_cases e : i = j
        · subst e; simp [hil] at hj
        · rw [getD_set_ne false e] at hj; exact hj)
    exact ih _ vals' a' w' (by omega) hm'

theorem wp_region_rg2 {id : Nat} {a : Act} {w : World} (hm : P.follows .mixedOrders = true) (G : World → World → Prop) (S : World → Prop) (R : Nat → Value → World → Prop) (T : Value → World → Prop) (y z : Nat) (n : Nat) (nss : List (List (Nat × Option Tmp))) (full : List (Nat × Option Tmp))
    (hn : a.tmps.size = n) (hok : rgOk .any ops n nss full = true) (hG1 : ∀ a, G a a) (hG2 : ∀ a b c, G a b → G b c → G a c) (hst : ∀ i v w w', G w w' → R i v w → R i v w')
    (hQ : ∀ ch (a a' : Act) w, a.defers = a'.defers → Q (.panic ch) a w → Q (.panic ch) a' w) (hS : ∀ w', G w.drew w' → S w')
    (hsteps : Steps P ops Q G S R a 0 ops.toList nss) (hT : ∀ v w w', G w w' → T v w → T v w') (hyz : ∀ ns, nss[z]? = some ns → ∃ p ∈ ns, p.1 = y) (hzs : z < ops.size)
    (hz : ∀ o ns, ops[z]? = some o → nss[z]? = some ns → ∀ w, S w → ∀ vals : Nat → Value, (∀ p ∈ ns, R p.1 (vals p.1) w) → OpOk P ops Q G (fun i v w' => R i v w' ∧ T (vals y) w') z o w (rgPut a (ns.map fun p => (p.2, vals p.1)))) (hend : ∀ w, S w → ∀ vals : Nat → Value, (∀ p ∈ full, R p.1 (vals p.1) w) → T (vals y) w → Q .normal (rgPut a (full.map fun p => (p.2, vals p.1))) w) : (Code.region id ops true).wp P Q a w := by
  simp only [rgOk, Bool.and_eq_true] at hok
  obtain ⟨⟨⟨⟨h1, h2⟩, h3⟩, h4⟩, h5⟩ := hok
  have hf : ∀ i, (Array.replicate ops.size false).getD i false = false := fun i => by
    by_cases hi : i < ops.size <;> simp [hi]
  refine wp_region_any hm (mid_all2 hn h1 h2 h3 h4 h5 hG2 hst hQ hS hsteps hT hyz hzs hz hend ops.size _ (fun _ => undef) a _ (by
    have := List.countP_le_length (p := fun i => !(Array.replicate ops.size false).getD i false) (l := List.range ops.size)
    simpa using this) ?_)
  refine ⟨⟨by simp, hG1 _, rfl, rfl, fun i o hi => ?_, fun i hi => ?_, fun i d hi => ?_, fun d _ => rfl⟩, fun hi => ?_⟩
  all_goals
    rw [hf _] at hi
    cases hi

end
end Go.Proofs.Ytilanncobbdlfaa
