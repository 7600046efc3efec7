/-
  The contract of octet.Narrow.
-/
import Derived.Test.YtbcocblamocobaaRound
namespace Go.Proofs.Ytbcocblamocobaa
open Go Go.RowKit Go.Shelf

attribute [local go_sem] Oper.semAt_some

def pairOk (l : List UInt8) (x : Nat) : Prop := 2 * x + 1 < l.length ∧ (1 ≤ (l.getD (2 * x) 0).toNat ∧ (l.getD (2 * x) 0).toNat ≤ 127) ∧ l.getD (2 * x + 1) 0 = 0

theorem boxed_kept {A B' : World} {B : Nat} {t : TypeId} {v : Value} {row : Option Nat} (h : Boxed A B t v) (hg : A.grownBy B' row) (hr : ∀ r, row = some r → ∃ o : Obj, A.heap[r]? = some o ∧ o.isCells = false) : Boxed B' B t v :=
  h.kept hg (fun e => by
    obtain ⟨o, ho, hc⟩ := hr B e.symm
    rw [show A.heap[B]? = _ from h] at ho
    cases ho
    cases hc)

def evL (l : List UInt8) (pre : List (Pl l.length)) : List UInt8 := pre.map fun x => l.getD (2 * x.1) 0

theorem OwnB.block {w : World} {base : Nat} {v : Value} {l : List UInt8} (h : OwnB w base v l) (k : Nat) (hk : ownB v = some k) : ∃ cur, w.heap[k]? = some (.cells cur 5 (0, 0)) := by
  rcases h.2 with ⟨a, rfl, _⟩ | ⟨g, cap, cur, rfl, _, hg, _, h0, _⟩
  · cases a <;> simp [ownB] at hk
  · have : cap ≠ 0 := by omega
    simp [ownB, this] at hk
    subst hk
    exact ⟨cur, hg⟩
theorem OwnB.not_box {W : World} {B base : Nat} {t : TypeId} {u v : Value} {l : List UInt8} (hb : Boxed W B t u) (hte : t ≠ 5) (h : OwnB W base v l) : some B ≠ ownB v := by
  intro e
  obtain ⟨cur, hc⟩ := h.block B e.symm
  rw [show W.heap[B]? = _ from hb] at hc
  simp at hc
  exact hte hc.2
theorem OwnB.grown {w w' : World} {base : Nat} {v : Value} {l : List UInt8} {row : Option Nat} (h : OwnB w base v l) (hg : w.grownBy w' row) (hr : ∀ r, row = some r → ∃ o : Obj, w.heap[r]? = some o ∧ o.isCells = false) : OwnB w' base v l :=
  Own.kept h hg (fun k hk e => by
    obtain ⟨o, ho, hc⟩ := hr k e
    obtain ⟨cur, hc2⟩ := h.block k hk
    rw [hc2] at ho
    cases ho
    cases hc)

set_option maxRecDepth 100000 in
set_option maxHeartbeats 4000000 in
theorem narrow_raw (v : Value) (l : List UInt8) (w : World) (hv : Byt w v l) (hl : l.length ≤ 1000000000000) :
    Calls Try.prog 32 #[v] w fun e w' =>
      (((∀ x, 2 * x < l.length → pairOk l x) ∧ e = .returned (.tuple #[.string (sOf ((List.range ((l.length + 1) / 2)).map fun i => l.getD (2 * i) 0)), .int .i64 0])) ∨
       ((∃ x, 2 * x < l.length ∧ ¬ pairOk l x) ∧ e = .returned (.tuple #[.string ⟨#[]⟩, .int .i64 9]))) ∧ Below w.heap.size w w' := by
  obtain ⟨m, hm⟩ : ∃ m, Hid (m = (List.range ((l.length + 1) / 2)).map fun i => l.getD (2 * i) 0) := ⟨_, Lib.hid rfl⟩
  rw [← hm.out]
  refine (callsIn_wide (n := 6)).1 ?_
  obtain ⟨a, cap, rfl, h1, h2, h3⟩ := hv.open
  obtain ⟨b, off, ha⟩ : ∃ b off, 0 < l.length → a = some ⟨b, off, none⟩ := by
    by_cases h : 0 < l.length
    · obtain ⟨b, off, e, _⟩ := h3 0 h
      exact ⟨b, off, fun _ => e⟩
    · exact ⟨0, 0, fun h' => absurd h' h⟩
  obtain ⟨i0, hi, hz0, hz1, hz2⟩ := info_parts infoB
  refine callsIn_of_wp_marks Try.func32 rfl trivial ?_ rfl
  simp only [Try.ntmps32, List.size_toArray, List.length_cons, List.length_nil, Nat.reduceAdd, Nat.reduceSub, Array.replicate_succ, Array.replicate_zero, List.push_toArray, List.append_toArray, List.nil_append, List.cons_append]
  gi_wp2_with (refine ⟨trivial, ?_⟩; gi_at_call 43; refine (callsIn_wide.2 (chunk_calls a l.length cap _)).mono ?_; rintro e w' ⟨rfl, rfl⟩)
  obtain ⟨W0, hW0⟩ : ∃ W0, (((((w.alloc (Obj.cells #[Value.string { data := #[] }] 9)).alloc (Obj.cells #[Value.int IntKind.i64 0] 29)).alloc (Obj.cells #[Value.slice none 0 0] 23)).alloc (Obj.cells #[Value.slice a l.length cap] 23)).alloc (Obj.cells #[Value.int IntKind.i64 2] 3)) = W0 := ⟨_, rfl⟩
  have hsz : W0.heap.size = w.heap.size + 5 := by rw [← hW0]; simp
  have bS : Boxed W0 w.heap.size 9 (.string ⟨#[]⟩) := by rw [← hW0]; exact ((((Boxed.new w _ _).alloc _).alloc _).alloc _).alloc _
  have bE : Boxed W0 (w.heap.size + 1) 29 (.int .i64 0) := by
    rw [← hW0]
    have := Boxed.new (w.alloc (Obj.cells #[Value.string { data := #[] }] 9)) 29 (.int .i64 0)
    rw [World.size_alloc] at this
    exact ((this.alloc _).alloc _).alloc _
  have bO : Boxed W0 (w.heap.size + 1 + 1) 23 (.slice none 0 0) := by
    rw [← hW0]
    have := Boxed.new ((w.alloc (Obj.cells #[Value.string { data := #[] }] 9)).alloc (Obj.cells #[Value.int IntKind.i64 0] 29)) 23 (.slice none 0 0)
    rw [World.size_alloc, World.size_alloc] at this
    exact (this.alloc _).alloc _
  have b3 : Boxed W0 (w.heap.size + 1 + 1 + 1) 23 (.slice a l.length cap) := by
    rw [← hW0]
    have := Boxed.new (((w.alloc (Obj.cells #[Value.string { data := #[] }] 9)).alloc (Obj.cells #[Value.int IntKind.i64 0] 29)).alloc (Obj.cells #[Value.slice none 0 0] 23)) 23 (.slice a l.length cap)
    rw [World.size_alloc, World.size_alloc, World.size_alloc] at this
    exact this.alloc _
  have b4 : Boxed W0 (w.heap.size + 1 + 1 + 1 + 1) 3 (.int .i64 2) := by
    rw [← hW0]
    have := Boxed.new ((((w.alloc (Obj.cells #[Value.string { data := #[] }] 9)).alloc (Obj.cells #[Value.int IntKind.i64 0] 29)).alloc (Obj.cells #[Value.slice none 0 0] 23)).alloc (Obj.cells #[Value.slice a l.length cap] 23)) 3 (.int .i64 2)
    rw [World.size_alloc, World.size_alloc, World.size_alloc, World.size_alloc] at this
    exact this
  have hB0 : Below w.heap.size w W0 := by
    rw [← hW0]
    exact (((((Below.refl _ w).alloc (Nat.le_refl _) _).alloc (by simp) _).alloc (by simp; omega) _).alloc (by simp; omega) _).alloc (by simp; omega) _
  rw [hW0]
  clear hW0
  refine wpIn_rangeFunc_ownF rfl (by decide) (gf := 49) (lb := #[.pointer (some ⟨w.heap.size + 1 + 1 + 1, 0, none⟩), .pointer (some ⟨w.heap.size + 1 + 1 + 1 + 1, 0, none⟩)]) rfl trivial (enters_of Try.func49 (by kernel_rfl) rfl)
    (chunk_stops 5 (by decide) (w.heap.size + 1 + 1 + 1) b off l.length cap a ha h1 h2 hl W0 (by omega) b3.cell b4.cell) (fun h k => h.trans k) ?keepb (Below.refl _ _) (fun _ => rfl)
    (fun pre W => ((∃ u, Boxed W (w.heap.size + 1 + 1) 23 u ∧ OwnB W w.heap.size u (evL l pre) ∧ (∀ x ∈ pre, pairOk l x.1)) ∧ Boxed W w.heap.size 9 (.string ⟨#[]⟩) ∧ Boxed W (w.heap.size + 1) 29 (.int .i64 0) ∧ Boxed W (w.heap.size + 1 + 1 + 1) 23 (.slice a l.length cap) ∧ Boxed W (w.heap.size + 1 + 1 + 1 + 1) 3 (.int .i64 2)) ∧ Below w.heap.size w W)
    (fun c pre W => (c = .ret ∧ (∃ x ∈ pre, ¬ pairOk l x.1) ∧ Boxed W w.heap.size 9 (.string ⟨#[]⟩) ∧ Boxed W (w.heap.size + 1) 29 (.int .i64 9)) ∧ Below w.heap.size w W)
    (OwnFrom.and (_root_.Go.Own.from (fun s A B row hs hg hr => ⟨(by obtain ⟨⟨u, q1, q2, q3⟩, _⟩ := hs; exact ⟨u, boxed_kept q1 hg hr, q2.grown hg hr, q3⟩), boxed_kept hs.2.1 hg hr, boxed_kept hs.2.2.1 hg hr, boxed_kept hs.2.2.2.1 hg hr, boxed_kept hs.2.2.2.2 hg hr⟩) _) (ownFrom_below (Nat.le_refl _) (by omega)))
    (fun c => OwnFrom.and (_root_.Go.Own.from (fun s A B row hs hg hr => ⟨hs.1, hs.2.1, boxed_kept hs.2.2.1 hg hr, boxed_kept hs.2.2.2 hg hr⟩) _) (ownFrom_below (Nat.le_refl _) (by omega)))
    ⟨⟨⟨_, bO, OwnB.empty _ _ _, fun x hx => by simp at hx⟩, bS, bE, b3, b4⟩, hB0⟩
    (fun x => { tmps := #[.slice a l.length cap, undef, .pointer (some ⟨w.heap.size, 0, none⟩), .pointer (some ⟨w.heap.size + 1, 0, none⟩), .pointer (some ⟨w.heap.size + 1 + 1, 0, none⟩), chV b off l.length x, .slice a l.length cap, .func (.func 49) #[] #[.pointer (some ⟨w.heap.size + 1 + 1 + 1, 0, none⟩), .pointer (some ⟨w.heap.size + 1 + 1 + 1 + 1, 0, none⟩)], chV b off l.length x,
      undef, undef, undef, undef, undef, undef, undef, undef, undef, undef, undef, undef, undef, undef, undef, undef, undef, undef, undef, undef, undef, undef, undef, undef], defers := [] }) ?assign ?body ?done ?stop
  case keepb =>
    intro W lp o o' hlp _ _ _
    exact ⟨World.putObj_heap_other (by omega), World.putObj_heap_other (by omega)⟩
  case assign =>
    intro lp x W K hK
    gi_wp2
    exact hK
  case body =>
    rintro lp pre ⟨x, hx⟩ W ⟨⟨⟨u, hu, hrow, hok⟩, hs, he, hb3, hb4⟩, hB⟩ hlt
    have hs1 := hs.cell
    have hs2 := hs.frozen
    have he1 := he.cell
    have he2 := he.frozen
    have hu1 := hu.cell
    have hu2 := hu.frozen
    have fin : ∀ (c : Value), ¬ pairOk l x → KeepsOthers W ((W.setCell ⟨w.heap.size, 0, none⟩ (.string ⟨#[]⟩)).setCell ⟨w.heap.size + 1, 0, none⟩ (.int .i64 9)) ∧
        (((∃ y ∈ pre ++ [(⟨x, hx⟩ : Pl l.length)], ¬ pairOk l y.1) ∧ Boxed ((W.setCell ⟨w.heap.size, 0, none⟩ (.string ⟨#[]⟩)).setCell ⟨w.heap.size + 1, 0, none⟩ (.int .i64 9)) w.heap.size 9 (.string ⟨#[]⟩) ∧ Boxed ((W.setCell ⟨w.heap.size, 0, none⟩ (.string ⟨#[]⟩)).setCell ⟨w.heap.size + 1, 0, none⟩ (.int .i64 9)) (w.heap.size + 1) 29 (.int .i64 9)) ∧
          Below w.heap.size w ((W.setCell ⟨w.heap.size, 0, none⟩ (.string ⟨#[]⟩)).setCell ⟨w.heap.size + 1, 0, none⟩ (.int .i64 9))) := fun _ hbad =>
      ⟨(KeepsOthers.setCell _ _ _).trans (KeepsOthers.setCell _ _ _), ⟨⟨_, List.mem_append.2 (.inr (List.mem_singleton.2 rfl)), hbad⟩,
        (hs.set _).kept (grownBy_setCell' _ _ _) (by simp), (he.kept (grownBy_setCell' _ _ _) (by simp)).set _⟩, (hB.setCell (p := ⟨w.heap.size, 0, none⟩) (Nat.le_refl _) _).setCell (p := ⟨w.heap.size + 1, 0, none⟩) (by simp) _⟩
    have FIN := Lib.hid fin
    clear fin
    by_cases hx1 : 2 * x + 1 < l.length
    · obtain ⟨b', off', e', hc0⟩ := h3 (2 * x) hx
      obtain ⟨b'', off'', e'', hd0⟩ := h3 (2 * x + 1) hx1
      obtain rfl := e'
      simp only [Option.some.injEq, Addr.mk.injEq] at e''
      obtain ⟨rfl, rfl, _⟩ := e''
      have e := ha (by omega)
      simp only [Option.some.injEq, Addr.mk.injEq] at e
      obtain ⟨rfl, rfl, _⟩ := e
      have hc := (hB.cell (p := ⟨b', off' + 2 * x, none⟩) (lt_of_cell hc0)).trans hc0
      have hd := (hB.cell (p := ⟨b', off' + (2 * x + 1), none⟩) (lt_of_cell hd0)).trans hd0
      rw [← Nat.add_assoc] at hd
      clear hc0 hd0 h3
      have hV : chV b' off' l.length ⟨x, hx⟩ = .slice (some ⟨b', off' + 2 * x, none⟩) 2 2 := by
        unfold chV
        dsimp only
        rw [show min 2 (l.length - 2 * x) = 2 by omega]
      rw [hV]
      clear hV
      obtain ⟨q, hq⟩ : ∃ q, Hid (q = off' + 2 * x) := ⟨_, Lib.hid rfl⟩
      rw [← hq.out] at hc hd ⊢
      obtain ⟨c, hcc⟩ : ∃ c, Hid (c = l.getD (2 * x) 0) := ⟨_, Lib.hid rfl⟩
      obtain ⟨d, hdd⟩ : ∃ d, Hid (d = l.getD (2 * x + 1) 0) := ⟨_, Lib.hid rfl⟩
      rw [← hcc.out] at hc
      rw [← hdd.out] at hd
      have hd8 := d.toNat_lt
      by_cases g1 : letB c = true
      · by_cases g2 : d.toNat = 0
        · obtain rfl : d = 0 := UInt8.toNat_inj.1 g2
          have hgood : Hid (pairOk l x) := Lib.hid ⟨hx1, by rw [← hcc.out]; exact (letB_iff c).1 g1, hdd.out.symm⟩
          have hl1 := fun w => letter_calls c w
          rw [g1] at hl1
          have HL := Lib.hid hl1
          clear hl1 g1 g2 FIN
          gi_wp2_with (refine ⟨trivial, ?_⟩; gi_at_call 44; refine (CallsIn.inRound lp (callsIn_wide.2 (HL.out _))).mono ?_; rintro e w2 ⟨rfl, rfl⟩)
          have hpl : (evL l pre).length ≤ 1000000000000 := by simp [evL]; omega
          obtain ⟨m, hm⟩ : ∃ m, Hid (m = evL l pre) := ⟨_, Lib.hid rfl⟩
          rw [← hm.out] at hrow hpl
          have hws : w.heap.size ≤ W.heap.size := hB.size
          have HU := Lib.hid hu
          have HB := Lib.hid hB
          have HH := Lib.hid (⟨hs, he, hb3, hb4⟩ : Boxed W w.heap.size 9 (.string ⟨#[]⟩) ∧ Boxed W (w.heap.size + 1) 29 (.int .i64 0) ∧ Boxed W (w.heap.size + 1 + 1 + 1) 23 (.slice (some ⟨b', off', none⟩) l.length cap) ∧ Boxed W (w.heap.size + 1 + 1 + 1 + 1) 3 (.int .i64 2))
          have HOK := Lib.hid hok
          have hbr := fun (tmp : Obj) => OwnB.not_box (hu.alloc tmp) (by decide) (hrow.alloc tmp)
          have HBR := Lib.hid hbr
          have hu3 := fun (tmp : Obj) => (hu.alloc tmp).cell
          clear hu hB hs he hb3 hb4 hok hs1 hs2 he1 he2 hd hbr hd8
          have fini : ∀ (v' : Value) (w1 : World) (tmp : Obj), OwnB w1 w.heap.size v' (m ++ [c]) → Boxed w1 (w.heap.size + 1 + 1) 23 u → (W.alloc tmp).drew.grownBy w1 (ownB u) →
              KeepsOthers W (w1.setCell ⟨w.heap.size + 1 + 1, 0, none⟩ v') ∧ Keep2 (w.heap.size + 1 + 1 + 1) W (w1.setCell ⟨w.heap.size + 1 + 1, 0, none⟩ v') ∧
                (((∃ u, Boxed (w1.setCell ⟨w.heap.size + 1 + 1, 0, none⟩ v') (w.heap.size + 1 + 1) 23 u ∧ OwnB (w1.setCell ⟨w.heap.size + 1 + 1, 0, none⟩ v') w.heap.size u (evL l (pre ++ [(⟨x, hx⟩ : Pl l.length)])) ∧ (∀ y ∈ pre ++ [(⟨x, hx⟩ : Pl l.length)], pairOk l y.1)) ∧
                  Boxed (w1.setCell ⟨w.heap.size + 1 + 1, 0, none⟩ v') w.heap.size 9 (.string ⟨#[]⟩) ∧ Boxed (w1.setCell ⟨w.heap.size + 1 + 1, 0, none⟩ v') (w.heap.size + 1) 29 (.int .i64 0) ∧ Boxed (w1.setCell ⟨w.heap.size + 1 + 1, 0, none⟩ v') (w.heap.size + 1 + 1 + 1) 23 (.slice (some ⟨b', off', none⟩) l.length cap) ∧ Boxed (w1.setCell ⟨w.heap.size + 1 + 1, 0, none⟩ v') (w.heap.size + 1 + 1 + 1 + 1) 3 (.int .i64 2)) ∧ Below w.heap.size w (w1.setCell ⟨w.heap.size + 1 + 1, 0, none⟩ v')) := by
            intro v' w1 tmp hown' hv1 hgrow
            have hgrow' : (W.alloc tmp).grownBy w1 (ownB u) := ⟨hgrow.os, hgrow.tape, hgrow.output, hgrow.size, hgrow.block⟩
            have hro := hrow.alloc tmp
            have keep : ∀ (B : Nat) (t : TypeId) (x : Value), t ≠ 5 → B ≠ w.heap.size + 1 + 1 → Boxed W B t x → Boxed (w1.setCell ⟨w.heap.size + 1 + 1, 0, none⟩ v') B t x := fun B t x ht hB h =>
              ((h.alloc tmp).kept hgrow' (OwnB.not_box (h.alloc tmp) ht hro)).kept (grownBy_setCell' _ _ _) (by simpa using hB)
            obtain ⟨k1, k2, k3, k4⟩ := HH.out
            have r3 := keep _ _ _ (by decide) (by omega) k3
            have r4 := keep _ _ _ (by decide) (by omega) k4
            refine ⟨((KeepsOthers.alloc W tmp).trans (KeepsOthers.of_grownBy hgrow' fun j o ej hj => ?_)).trans (KeepsOthers.setCell _ _ _), ⟨r3.trans k3.symm, r4.trans k4.symm⟩, ⟨⟨v', hv1.set v', ?_, ?_⟩, keep _ _ _ (by decide) (by omega) k1, keep _ _ _ (by decide) (by omega) k2, r3, r4⟩, ?_⟩
            · obtain ⟨cur, hc9⟩ := hro.block j ej
              rw [hc9] at hj
              cases hj
              rfl
            · rw [show evL l (pre ++ [(⟨x, hx⟩ : Pl l.length)]) = m ++ [c] by rw [hm.out, hcc.out]; simp [evL]]
              exact Own.kept hown' (grownBy_setCell' _ _ _) (fun k hk e => OwnB.not_box hv1 (by decide) hown' (e.trans hk.symm))
            · intro y hy
              rcases List.mem_append.1 hy with hy | hy
              · exact HOK.out y hy
              · rw [List.mem_singleton.1 hy]; exact hgood.out
            · exact ((HB.out.alloc hws tmp).grown hgrow' (by simp; omega) (fun j hj => (hrow.lt j hj).1)).setCell (p := ⟨w.heap.size + 1 + 1, 0, none⟩) (by simp; omega) _
          have FINI := Lib.hid fini
          clear fini
          refine wpIn_region_any (by kernel_rfl) (wpAnyIn_of_wpAny lp _ (fun i o ho => all_undef (by kernel_rfl) ho) ?letout _ _ _ _ ?_)
          case letout => rintro ⟨_, _, h⟩; exact h.elim
          change wpAny _ _ _ _ _ _ _ W.drew
          refine wpAny_ready (rs := [0, 1]) (by kernel_rfl) (by simp) ?_
          refine AllReady.cons rfl (fun K hK => ?_) ?_
          (go_simp; refine hK _ _ ?_; clear hK K)
          · skip
            refine wpAny_ready (rs := [1]) (by kernel_rfl) (by simp) ?_
            refine AllReady.cons rfl (fun K hK => ?_) AllReady.nil
            go_simp
            refine hK _ _ ?_
            clear hK K
            refine wpAny_ready (rs := [2]) (by kernel_rfl) (by simp) ?_
            refine AllReady.cons rfl (fun K hK => ?_) AllReady.nil
            go_simp
            refine hK _ _ ?_
            clear hK K
            refine wpAny_ready (rs := [3]) (by kernel_rfl) (by simp) ?_
            refine AllReady.cons rfl (fun K hK => ?_) AllReady.nil
            go_simp
            refine hK _ _ ?_
            clear hK K
            refine wpAny_ready (rs := [4]) (by kernel_rfl) (by simp) ?_
            refine AllReady.cons rfl (fun K hK => ?_) AllReady.nil
            go_simp
            refine hK _ _ ?_
            clear hK K
            refine wpAny_ready (rs := [5]) (by kernel_rfl) (by simp) ?_
            refine AllReady.cons rfl (fun K hK => ?_) AllReady.nil
            refine wanted_if rfl ?_
            refine op_append_byt _ _ rfl w.heap.size u m rfl (hrow.alloc _) _ [c] rfl (Byt.one W.drew _ _ _ rfl) (by simp; omega) (by simp; omega) ?_
            intro v' w1 hown' hgrow
            refine hK _ _ ?_
            clear hK K
            obtain ⟨g', cap', rfl, q1, q2, q3, q4, q5⟩ := hown'.head (by simp)
            rw [show (m ++ [c]).length = m.length + 1 by simp] at hown'
            have hv1 := Boxed.kept (W := (W.alloc (Obj.cells #[Value.int IntKind.u8 c.toNat] 5)).drew) (HU.out.alloc _) hgrow (HBR.out (Obj.cells #[Value.int IntKind.u8 c.toNat] 5))
            have hc1 := hv1.cell
            have hf1 := hv1.frozen
            refine wpAny_ready (rs := [6]) (by kernel_rfl) (by simp) ?_
            refine AllReady.cons rfl (fun K hK => ?_) AllReady.nil
            go_simp
            refine hK _ _ ?_
            clear hK K
            refine wpAny_done (by kernel_rfl) ?_ _
            exact FINI.out _ _ _ hown' hv1 hgrow
          refine AllReady.cons rfl (fun K hK => ?_) AllReady.nil
          go_simp
          refine hK _ _ ?_
          clear hK K
          refine wpAny_ready (rs := [0, 2]) (by kernel_rfl) (by simp) ?_
          refine AllReady.cons rfl (fun K hK => ?_) ?_
          (go_simp; refine hK _ _ ?_; clear hK K)
          · skip
            refine wpAny_ready (rs := [2]) (by kernel_rfl) (by simp) ?_
            refine AllReady.cons rfl (fun K hK => ?_) AllReady.nil
            go_simp
            refine hK _ _ ?_
            clear hK K
            refine wpAny_ready (rs := [3]) (by kernel_rfl) (by simp) ?_
            refine AllReady.cons rfl (fun K hK => ?_) AllReady.nil
            go_simp
            refine hK _ _ ?_
            clear hK K
            refine wpAny_ready (rs := [4]) (by kernel_rfl) (by simp) ?_
            refine AllReady.cons rfl (fun K hK => ?_) AllReady.nil
            go_simp
            refine hK _ _ ?_
            clear hK K
            refine wpAny_ready (rs := [5]) (by kernel_rfl) (by simp) ?_
            refine AllReady.cons rfl (fun K hK => ?_) AllReady.nil
            refine wanted_if rfl ?_
            refine op_append_byt _ _ rfl w.heap.size u m rfl (hrow.alloc _) _ [c] rfl (Byt.one W.drew _ _ _ rfl) (by simp; omega) (by simp; omega) ?_
            intro v' w1 hown' hgrow
            refine hK _ _ ?_
            clear hK K
            obtain ⟨g', cap', rfl, q1, q2, q3, q4, q5⟩ := hown'.head (by simp)
            rw [show (m ++ [c]).length = m.length + 1 by simp] at hown'
            have hv1 := Boxed.kept (W := (W.alloc (Obj.cells #[Value.int IntKind.u8 c.toNat] 5)).drew) (HU.out.alloc _) hgrow (HBR.out (Obj.cells #[Value.int IntKind.u8 c.toNat] 5))
            have hc1 := hv1.cell
            have hf1 := hv1.frozen
            refine wpAny_ready (rs := [6]) (by kernel_rfl) (by simp) ?_
            refine AllReady.cons rfl (fun K hK => ?_) AllReady.nil
            go_simp
            refine hK _ _ ?_
            clear hK K
            refine wpAny_done (by kernel_rfl) ?_ _
            exact FINI.out _ _ _ hown' hv1 hgrow
          refine AllReady.cons rfl (fun K hK => ?_) AllReady.nil
          go_simp
          refine hK _ _ ?_
          clear hK K
          refine wpAny_ready (rs := [0, 3]) (by kernel_rfl) (by simp) ?_
          refine AllReady.cons rfl (fun K hK => ?_) ?_
          (go_simp; refine hK _ _ ?_; clear hK K)
          · skip
            refine wpAny_ready (rs := [3]) (by kernel_rfl) (by simp) ?_
            refine AllReady.cons rfl (fun K hK => ?_) AllReady.nil
            go_simp
            refine hK _ _ ?_
            clear hK K
            refine wpAny_ready (rs := [4]) (by kernel_rfl) (by simp) ?_
            refine AllReady.cons rfl (fun K hK => ?_) AllReady.nil
            go_simp
            refine hK _ _ ?_
            clear hK K
            refine wpAny_ready (rs := [5]) (by kernel_rfl) (by simp) ?_
            refine AllReady.cons rfl (fun K hK => ?_) AllReady.nil
            refine wanted_if rfl ?_
            refine op_append_byt _ _ rfl w.heap.size u m rfl (hrow.alloc _) _ [c] rfl (Byt.one W.drew _ _ _ rfl) (by simp; omega) (by simp; omega) ?_
            intro v' w1 hown' hgrow
            refine hK _ _ ?_
            clear hK K
            obtain ⟨g', cap', rfl, q1, q2, q3, q4, q5⟩ := hown'.head (by simp)
            rw [show (m ++ [c]).length = m.length + 1 by simp] at hown'
            have hv1 := Boxed.kept (W := (W.alloc (Obj.cells #[Value.int IntKind.u8 c.toNat] 5)).drew) (HU.out.alloc _) hgrow (HBR.out (Obj.cells #[Value.int IntKind.u8 c.toNat] 5))
            have hc1 := hv1.cell
            have hf1 := hv1.frozen
            refine wpAny_ready (rs := [6]) (by kernel_rfl) (by simp) ?_
            refine AllReady.cons rfl (fun K hK => ?_) AllReady.nil
            go_simp
            refine hK _ _ ?_
            clear hK K
            refine wpAny_done (by kernel_rfl) ?_ _
            exact FINI.out _ _ _ hown' hv1 hgrow
          refine AllReady.cons rfl (fun K hK => ?_) AllReady.nil
          go_simp
          refine hK _ _ ?_
          clear hK K
          refine wpAny_ready (rs := [0, 4]) (by kernel_rfl) (by simp) ?_
          refine AllReady.cons rfl (fun K hK => ?_) ?_
          (go_simp; refine hK _ _ ?_; clear hK K)
          · skip
            refine wpAny_ready (rs := [4]) (by kernel_rfl) (by simp) ?_
            refine AllReady.cons rfl (fun K hK => ?_) AllReady.nil
            go_simp
            refine hK _ _ ?_
            clear hK K
            refine wpAny_ready (rs := [5]) (by kernel_rfl) (by simp) ?_
            refine AllReady.cons rfl (fun K hK => ?_) AllReady.nil
            refine wanted_if rfl ?_
            refine op_append_byt _ _ rfl w.heap.size u m rfl (hrow.alloc _) _ [c] rfl (Byt.one W.drew _ _ _ rfl) (by simp; omega) (by simp; omega) ?_
            intro v' w1 hown' hgrow
            refine hK _ _ ?_
            clear hK K
            obtain ⟨g', cap', rfl, q1, q2, q3, q4, q5⟩ := hown'.head (by simp)
            rw [show (m ++ [c]).length = m.length + 1 by simp] at hown'
            have hv1 := Boxed.kept (W := (W.alloc (Obj.cells #[Value.int IntKind.u8 c.toNat] 5)).drew) (HU.out.alloc _) hgrow (HBR.out (Obj.cells #[Value.int IntKind.u8 c.toNat] 5))
            have hc1 := hv1.cell
            have hf1 := hv1.frozen
            refine wpAny_ready (rs := [6]) (by kernel_rfl) (by simp) ?_
            refine AllReady.cons rfl (fun K hK => ?_) AllReady.nil
            go_simp
            refine hK _ _ ?_
            clear hK K
            refine wpAny_done (by kernel_rfl) ?_ _
            exact FINI.out _ _ _ hown' hv1 hgrow
          refine AllReady.cons rfl (fun K hK => ?_) AllReady.nil
          go_simp
          refine hK _ _ ?_
          clear hK K
          refine wpAny_ready (rs := [0]) (by kernel_rfl) (by simp) ?_
          refine AllReady.cons rfl (fun K hK => ?_) AllReady.nil
          go_simp
          refine hK _ _ ?_
          clear hK K
          refine wpAny_ready (rs := [5]) (by kernel_rfl) (by simp) ?_
          refine AllReady.cons rfl (fun K hK => ?_) AllReady.nil
          refine wanted_if rfl ?_
          refine op_append_byt _ _ rfl w.heap.size u m rfl (hrow.alloc _) _ [c] rfl (Byt.one W.drew _ _ _ rfl) (by simp; omega) (by simp; omega) ?_
          intro v' w1 hown' hgrow
          refine hK _ _ ?_
          clear hK K
          obtain ⟨g', cap', rfl, q1, q2, q3, q4, q5⟩ := hown'.head (by simp)
          rw [show (m ++ [c]).length = m.length + 1 by simp] at hown'
          have hv1 := Boxed.kept (W := (W.alloc (Obj.cells #[Value.int IntKind.u8 c.toNat] 5)).drew) (HU.out.alloc _) hgrow (HBR.out (Obj.cells #[Value.int IntKind.u8 c.toNat] 5))
          have hc1 := hv1.cell
          have hf1 := hv1.frozen
          refine wpAny_ready (rs := [6]) (by kernel_rfl) (by simp) ?_
          refine AllReady.cons rfl (fun K hK => ?_) AllReady.nil
          go_simp
          refine hK _ _ ?_
          clear hK K
          refine wpAny_done (by kernel_rfl) ?_ _
          exact FINI.out _ _ _ hown' hv1 hgrow
        · have hl1 := fun w => letter_calls c w
          rw [g1] at hl1
          have HL := Lib.hid hl1
          have hbad : ¬ pairOk l x := fun h => g2 (by rw [hdd.out, h.2.2]; rfl)
          clear hl1 g1
          gi_wp2_with (refine ⟨trivial, ?_⟩; gi_at_call 44; refine (CallsIn.inRound lp (callsIn_wide.2 (HL.out _))).mono ?_; rintro e w2 ⟨rfl, rfl⟩)
          obtain ⟨f1, f2, f3⟩ := FIN.out (.bool true) hbad; exact ⟨f1, ⟨rfl, f2⟩, f3⟩
      · have hl1 := fun w => letter_calls c w
        rw [Bool.eq_false_iff.2 g1] at hl1
        have HL := Lib.hid hl1
        have hbad : ¬ pairOk l x := fun h => g1 ((letB_iff c).2 (by rw [hcc.out]; exact h.2.1))
        clear hl1 g1
        gi_wp2_with (refine ⟨trivial, ?_⟩; gi_at_call 44; refine (CallsIn.inRound lp (callsIn_wide.2 (HL.out _))).mono ?_; rintro e w2 ⟨rfl, rfl⟩)
        obtain ⟨f1, f2, f3⟩ := FIN.out (.bool true) hbad; exact ⟨f1, ⟨rfl, f2⟩, f3⟩
    · have hV : chV b off l.length ⟨x, hx⟩ = .slice (some ⟨b, off + 2 * x, none⟩) 1 1 := by
        unfold chV
        dsimp only
        rw [show min 2 (l.length - 2 * x) = 1 by omega]
      rw [hV]
      clear hV
      have hbad : ¬ pairOk l x := fun h => hx1 h.1
      gi_wp2
      refine ⟨trivial, ?_⟩
      gi_wp2
      obtain ⟨f1, f2, f3⟩ := FIN.out (.bool true) hbad; exact ⟨f1, ⟨rfl, f2⟩, f3⟩
  case done =>
    rintro D ys W hD rfl ⟨⟨⟨u, hu, hrow, hok⟩, hs, he, _, _⟩, hB⟩ hK
    have hs1 := hs.cell
    have hs2 := hs.frozen
    have he1 := he.cell
    have he2 := he.frozen
    have hu1 := hu.cell
    have hev : evL l (cho l.length ((l.length + 1) / 2)) = (List.range ((l.length + 1) / 2)).map fun i => l.getD (2 * i) 0 := by
      have : ∀ k, 2 * k < l.length + 2 → evL l (cho l.length k) = (List.range k).map fun i => l.getD (2 * i) 0 := by
        intro k
        induction k with
        | zero => intro _; rfl
        | succ k ih =>
          intro hk
          rw [cho_succ _ _ (by omega), List.range_succ, List.map_append, ← ih (by omega)]
          simp [evL]
      exact this _ (by omega)
    have hall : ∀ x, 2 * x < l.length → pairOk l x := by
      intro x hx
      refine hok ⟨x, hx⟩ ?_
      unfold cho
      rw [List.mem_filterMap]
      exact ⟨x, List.mem_range.2 (by omega), by simp [hx]⟩
    rw [hev, ← hm.out] at hrow
    have hbyt := hrow.byt
    have c1 := run_tostring (P := Try.prog) hbyt 23 9 5 Try.underlying23 Try.underlying5 Try.underlying9
    have HB := Lib.hid hB
    have HALL := Lib.hid hall
    have HROW := Lib.hid hrow
    have HS := Lib.hid hs
    have HE := Lib.hid he
    clear hB hall hrow hs he hu hok hbyt hev
    gi_wp2
    have hK' := ((KeepsOthers.setCell W ⟨w.heap.size, 0, none⟩ (.string (sOf m))).trans (KeepsOthers.setCell _ ⟨w.heap.size + 1, 0, none⟩ (.int .i64 0))).same D _ hK rfl
    refine ⟨by simp, .inl ⟨_, _, rfl, run_takeDeferred hK', ?_⟩⟩
    have t1 : Boxed ((W.setCell ⟨w.heap.size, 0, none⟩ (.string (sOf m))).setCell ⟨w.heap.size + 1, 0, none⟩ (.int .i64 0)) w.heap.size 9 (.string (sOf m)) := (HS.out.set _).kept (grownBy_setCell' _ _ _) (by simp)
    have t2 : Boxed ((W.setCell ⟨w.heap.size, 0, none⟩ (.string (sOf m))).setCell ⟨w.heap.size + 1, 0, none⟩ (.int .i64 0)) (w.heap.size + 1) 29 (.int .i64 0) := (HE.out.kept (grownBy_setCell' _ _ _) (by simp)).set _
    have hc5 := cell_kept t1.cell (grownBy_putObj' _ D (.deferred none)) (fun r e => by cases e; exact ⟨_, hK', rfl⟩)
    have hc6 := cell_kept t2.cell (grownBy_putObj' _ D (.deferred none)) (fun r e => by cases e; exact ⟨_, hK', rfl⟩)
    have hBf := ((HB.out.setCell (p := ⟨w.heap.size, 0, none⟩) (Nat.le_refl _) (.string (sOf m))).setCell (p := ⟨w.heap.size + 1, 0, none⟩) (by simp) (.int .i64 0)).trans (belowK_b (w := w) (Nat.le_refl _) _ D _ (.deferred none) (by omega) hK' rfl rfl)
    refine ⟨.tuple #[.string (sOf m), .int .i64 0], ?_, .inl ⟨HALL.out, rfl⟩, hBf⟩
    simp [results, Try.f32, go_sem, hc5, hc6]
  case stop =>
    rintro D c pre W hD hpre ⟨⟨rfl, hbad, hs, he⟩, hB⟩ hK
    have HBAD : Hid (∃ x, 2 * x < l.length ∧ ¬ pairOk l x) := by
      obtain ⟨x, _, h⟩ := hbad
      exact Lib.hid ⟨x.1, x.2, h⟩
    clear hbad hpre
    gi_wp2
    refine ⟨by simp, .inl ⟨_, _, rfl, run_takeDeferred hK, ?_⟩⟩
    have hc5 := cell_kept hs.cell (grownBy_putObj' _ D (.deferred none)) (fun r e => by cases e; exact ⟨_, hK, rfl⟩)
    have hc6 := cell_kept he.cell (grownBy_putObj' _ D (.deferred none)) (fun r e => by cases e; exact ⟨_, hK, rfl⟩)
    refine ⟨.tuple #[.string ⟨#[]⟩, .int .i64 9], ?_, .inr ⟨HBAD.out, rfl⟩, hB.trans (belowK_b (w := w) (Nat.le_refl _) W D _ _ (by omega) hK rfl rfl)⟩
    simp [results, Try.f32, go_sem, hc5, hc6]
end Go.Proofs.Ytbcocblamocobaa
