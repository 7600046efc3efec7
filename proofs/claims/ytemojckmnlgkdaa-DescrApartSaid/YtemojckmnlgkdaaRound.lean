/-
  A region that draws its order within a round of a range over a function, at the wide fence: the plain calculus serves there too.
-/
import Derived.Test.YtemojckmnlgkdaaOct8
import Derived.StillTailTactics
namespace Go.Proofs.Ytemojckmnlgkdaa
open Go Go.RowKit

theorem opIn_of_op {P : Program} {o : Oper} {a : Act} {w : World} {K : Act → World → Prop} {Q : Exit → Act → World → Prop} (lp n : Nat) (hd : ∀ c, o.op ≠ .defer c) (h : o.wp P a w K Q) : o.wpIn (Fence.wide.inRound lp) n P a w K Q := by
  refine ⟨fun _ _ => trivial, ?_⟩
  rw [Oper.semAt_plain _ _ _ hd]
  unfold Oper.wp at h
  generalize (execOp a.eval o).run P w = r at h
  cases r with
  | ok v w' =>
    cases v with
    | value v => exact h
    | skip => exact h
    | defer d => exact h
    | enter f args =>
      refine ⟨fun e => (by simp [Fence.wide] at e), ?_⟩
      exact CallsIn.inRound lp (callsIn_wide.2 h)
    | row r args =>
      refine ⟨fun e => (by simp [Fence.wide] at e), fun c cs _ => ?_⟩
      obtain ⟨v, w', r, s⟩ := h c cs
      exact ⟨v, w', r, stepsIn_wide.2 s⟩
    | _ => exact h.elim
  | halt e w' =>
    cases e with
    | panic v => exact h
    | _ => exact h.elim

theorem wpAnyIn_of_wpAny {P : Program} {md : Region.Mode} {ops : Array Oper} {Q : Exit → Act → World → Prop} (lp n : Nat) (hd : ∀ (i : Nat) (o : Oper), ops[i]? = some o → ∀ c, o.op ≠ .defer c) (hQ : ¬ LetsOut Q) :
    ∀ (fuel : Nat) (listed : Array Bool) (a : Act) (w : World), wpAny P md ops Q fuel listed a w → wpAnyIn (Fence.wide.inRound lp) n P md ops Q fuel listed a w := by
  intro fuel
  induction fuel with
  | zero => exact fun _ _ _ h => h
  | succ fuel ih =>
    rintro listed a w ⟨h1, h2⟩
    refine ⟨h1, fun i hi => ?_⟩
    have h := h2 i hi
    unfold wpOp at h
    unfold wpOpIn
    cases ho : ops[i]? with
    | none => rw [ho] at h; exact ih _ _ _ h
    | some o =>
      rw [ho] at h
      dsimp only at h ⊢
      split
      · rename_i hw
        rw [if_pos hw] at h
        rcases h with h | ⟨_, h⟩
        · exact Oper.wpIn_mono (fun a w => ih _ a w) (opIn_of_op lp n (hd i o ho) h)
        · exact absurd h hQ
      · rename_i hw
        rw [if_neg hw] at h
        exact ⟨fun _ _ => trivial, ih _ _ _ h⟩

/-- Is an operation no defer? -/
def undeferred (o : Oper) : Bool := match o.op with | .defer _ => false | _ => true
theorem undeferred_spec {o : Oper} (h : undeferred o = true) : ∀ c, o.op ≠ .defer c := by
  intro c e
  unfold undeferred at h
  rw [e] at h
  cases h

/-- A region that draws its order in a round: its first n operations are still, the rest comes in its order. -/
theorem wpIn_region_tail {P : Program} {id : Nat} {Q : Exit → Act → World → Prop} {a : Act} {w : World} {l : List Oper} (lp nn n : Nat) (hm : P.follows .mixedOrders = true) (hB : Region.lexTailB .any l.toArray n = true)
    (hd : l.all undeferred = true) (hQ : ¬ LetsOut Q)
    (h : wpStill P l.toArray w.drew (fun a' => wpList P l.toArray Q (l.drop n) a' w.drew) (l.take n) a) : (Code.region id l.toArray true).wpIn (Fence.wide.inRound lp) nn P Q a w := by
  simp only [Region.lexTailB, Bool.and_eq_true, decide_eq_true_eq] at hB
  obtain ⟨⟨⟨⟨hsel, hn⟩, hs⟩, hc⟩, hlex⟩ := hB
  have hn' : n < l.length := by simpa using hn
  have htl : (l.take n).length = n := by rw [List.length_take]; omega
  have inv0 : HeadInv .any l.toArray n (Array.replicate l.toArray.size false) :=
    ⟨by simp, fun j oj _ hl => (by rw [getD_replicate_false] at hl; cases hl), fun t _ ht => getD_in (by simpa using ht) (getD_replicate_false _ _)⟩
  have H := wpAnyL_lex (md := .any) (g := l.toArray.size - n) hsel hs hc hn (l.take n) 0 _ a
    (fun j hj => by rw [htl] at hj; simp [hj]) (by omega) inv0 (by rw [htl]; exact hlex) h
  have H2 : wpAny P .any l.toArray Q ((l.take n).length + (l.toArray.size - n)) (Array.replicate l.toArray.size false) a w.drew :=
    wpAny_of_head (fun listed a' hL => by
      have H3 := wpAny_of_seq (md := .any) (Q' := Q) (l.drop n) n listed a' w.drew (fun j => by simp) (by rw [List.length_drop]; exact hL.1) hL.2
      rwa [List.length_drop] at H3) _ _ _ H
  rw [htl, show n + (l.toArray.size - n) = l.toArray.size by simp; omega] at H2
  refine wpIn_region_any hm (wpAnyIn_of_wpAny lp nn (fun i o ho => undeferred_spec ?_) hQ _ _ _ _ H2)
  rw [List.all_eq_true] at hd
  refine hd o ?_
  rw [List.getElem?_toArray] at ho
  exact List.mem_of_getElem? ho

/-- append(out, bytes...), as one operation. -/
theorem op_append_byt {w : World} {o : Oper} {a : Act} {K : Act → World → Prop} {Q : Exit → Act → World → Prop} (s x : Operand)
    (ho : o.op = .call { callee := .builtin .append, args := #[s, x], argTypes := #[22, 22] })
    (base : Nat) (v : Value) (l : List UInt8) (hs : a.eval s = v) (hown : OwnB w base v l)
    (y : Value) (m : List UInt8) (hxe : a.eval x = y) (hx : Byt w y m) (hlen : l.length + m.length ≤ 140737488355328) (hbase : base ≤ w.heap.size)
    (h : ∀ v' w', OwnB w' base v' (l ++ m) → w.grownBy w' (ownB v) → K (a.put o.dst v') w') : o.wp Try.prog a w K Q := by
  obtain ⟨i, hi, hz, hi2, hi3⟩ := info_parts infoB
  obtain ⟨v', w', hr, h2, h3, _⟩ := append_rd (P := Try.prog) w base 22 o.type 5 i (.int .u8 0) 1 1 Try.underlying22 hi hz hi2 hi3 rfl (by decide) v l.length (l.map b8) hown y m.length (m.map b8) hx (b8_oneCell m) (by unfold maxLen; omega) (by omega) hbase
  unfold Oper.wp execOp
  simp only [ho, resolve, invoke, builtin, Sem.run_bind, Sem.run_pure, Result.andThen_ok, List.map_toArray, List.map_cons, List.map_nil, hs, hxe, hr]
  exact h v' w' (by simpa [OwnB] using h2) h3

theorem all_undef {l : List Oper} (h : l.all undeferred = true) {i : Nat} {o : Oper} (ho : l.toArray[i]? = some o) : ∀ c, o.op ≠ .defer c := by
  refine undeferred_spec ?_
  rw [List.all_eq_true] at h
  rw [List.getElem?_toArray] at ho
  exact h o (List.mem_of_getElem? ho)

theorem wanted_if {ops : Array Oper} {a : Act} {o : Oper} {X Y : Prop} (hg : o.guard = none) (h : X) : if Region.wanted o (yielded ops a.tmps) = true then X else Y := by
  simp only [Region.wanted, hg, if_true]
  exact h

end Go.Proofs.Ytemojckmnlgkdaa
