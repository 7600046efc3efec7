/-
  A turned option that a law is handed: opened to its option and three numbers; and how much it reads.
-/
import Derived.Test.YtbcocblamocobaaOpenOpt
namespace Go.Proofs.Ytbcocblamocobaa
open Go Go.RowKit Go.ChangeShapes Go.WideShapes Go.ChangeAt Go.Joins Go.Deep

theorem bulk_pos {H : Type} (d : DataW H) : 1 ≤ Rows.uptoBulk d := by
  cases d with
  | lit x => cases x <;> simp only [Rows.uptoBulk] <;> omega
  | nil => simp only [Rows.uptoBulk]; omega
  | ptr d => simp only [Rows.uptoBulk]; omega
  | slice a b => simp only [Rows.uptoBulk]; omega
  | agg a => simp only [Rows.uptoBulk]; omega
  | iface a d => simp only [Rows.uptoBulk]; omega
  | map a => simp only [Rows.uptoBulk]; omega
  | held a => simp only [Rows.uptoBulk]; omega
theorem bulk_le {H : Type} : ∀ l : List (DataW H), l.length ≤ Rows.uptoBulkAll l
  | [] => by simp
  | d :: l => by
    have h1 := bulk_pos d
    have h2 := bulk_le l
    simp only [Rows.uptoBulkAll, List.length_cons]
    omega
theorem slice_bulk {H : Type} {enc : TypeId × Value → H} {W : World} {base : Nat} {sp : Nat → Bool} {held : Bool} {fuel : Nat} {T E : TypeId} {a : Option Addr} {len cap : Nat} {y : DataW H × List MemPlace}
    (hT : Try.prog.underlying T = some (.slice E)) (hE : Try.prog.underlying E = some (.int .u8)) (hc : Try.prog.cellsOf E = 1)
    (hf : DataW.trod enc Try.prog W base sp held fuel T (Value.slice a len cap).cells.toList = some y) : len ≤ Rows.uptoBulk y.1 := by
  rcases open_ints hT hE hc hf with ⟨hcs, _⟩ | ⟨x, l, c, zs, hcs, _, hl, hm, hz, hx, _, _⟩
  · simp [Value.cells] at hcs
    omega
  · simp [Value.cells] at hcs
    obtain ⟨rfl, rfl, rfl⟩ := hcs
    subst hx
    have hzl : len ≤ zs.length := by rw [hz]; split <;> omega
    have h1 := bulk_le (lits (H := H) .u8 (zs.take len))
    have h2 : (lits (H := H) .u8 (zs.take len)).length = len := by unfold lits; rw [List.length_map, List.length_take]; omega
    simp only [Rows.uptoBulk]
    omega

theorem open_turn {H : Type} {enc : TypeId × Value → H} {w : World} {base : Nat} {spare : Nat → Bool} {held : Bool} {r : Reach} {b0 : Nat} {v : Value} {d : DataW H} {p : List MemPlace}
    (hv : Value.okWide Try.prog w r b0 44 v) (h : DataW.Trod enc Try.prog w base spare held 44 v d p) (hk : Rows.uptoBulkAll [d] ≤ 1048576) :
    ∃ (o : Opt) (pv dv : Value) (n x z : Nat), v = .agg #[.int .u32 (o.a : Int), .string (sOf o.s), pv, dv, .int .u16 (n : Int), .int .u8 (x : Int), .int .u16 (z : Int)] ∧ o.a < 4294967296 ∧ Byt w pv o.p ∧ Byt w dv o.d ∧
      o.s.length ≤ 1048576 ∧ o.p.length ≤ 1048576 ∧ o.d.length ≤ 1048576 ∧ n < 65536 ∧ x < 256 ∧ z < 65536 := by
  have hs := Try.underlying44
  obtain ⟨cs, rfl, hsz⟩ := okWide_struct hs hv
  have hC : Try.prog.cellsOf 44 = 7 := by kernel_rfl
  obtain ⟨l⟩ := cs
  match l, hsz.trans hC with
  | [c0, c1, c2, c3, c4, c5, c6], _ =>
    obtain ⟨fuel, hf⟩ := h
    obtain ⟨xs, n, _, hx, _, hlen, hg⟩ := DataW.trod_struct hs hf
    match xs, hlen with
    | [y0, y1, y2, y3], _ =>
      have o4 : Try.prog.cellsOf 25 = 4 := by kernel_rfl
      have o32 : Try.prog.cellsOf 22 = 1 := by kernel_rfl
      have o16 : Try.prog.cellsOf 42 = 1 := by kernel_rfl
      have o8 : Try.prog.cellsOf 5 = 1 := by kernel_rfl
      have os : Try.prog.cellsOf 9 = 1 := by kernel_rfl
      have ob : Try.prog.cellsOf 23 = 1 := by kernel_rfl
      have t0 : DataW.trod enc Try.prog w base spare held n 25 [c0, c1, c2, c3] = some y0 := by simpa [Value.cells, o4] using hg 0 _ rfl
      have t1 : DataW.trod enc Try.prog w base spare held n 42 [c4] = some y1 := by simpa [Value.cells, o16] using hg 1 _ rfl
      have t2 : DataW.trod enc Try.prog w base spare held n 5 [c5] = some y2 := by simpa [Value.cells, o8] using hg 2 _ rfl
      have t3 : DataW.trod enc Try.prog w base spare held n 42 [c6] = some y3 := by simpa [Value.cells, o16] using hg 3 _ rfl
      obtain ⟨zs, m, _, hx0, _, hlen0, hg0⟩ := DataW.trod_struct Try.underlying25 t0
      match zs, hlen0 with
      | [z0, z1, z2, z3], _ =>
        have u0 : DataW.trod enc Try.prog w base spare held m 22 [c0] = some z0 := by simpa [Value.cells, o32] using hg0 0 _ rfl
        have u1 : DataW.trod enc Try.prog w base spare held m 9 [c1] = some z1 := by simpa [Value.cells, os] using hg0 1 _ rfl
        have u2 : DataW.trod enc Try.prog w base spare held m 23 [c2] = some z2 := by simpa [Value.cells, ob] using hg0 2 _ rfl
        have u3 : DataW.trod enc Try.prog w base spare held m 23 [c3] = some z3 := by simpa [Value.cells, ob] using hg0 3 _ rfl
        obtain ⟨n4, e4, _, w4⟩ := DataW.trod_int Try.underlying42 t1
        obtain ⟨n5, e5, _, w5⟩ := DataW.trod_int Try.underlying5 t2
        obtain ⟨n6, e6, _, w6⟩ := DataW.trod_int Try.underlying42 t3
        obtain ⟨n0, e0, _, w0⟩ := DataW.trod_int Try.underlying22 u0
        obtain ⟨s, e1, hs1, w1⟩ := DataW.trod_string Try.underlying9 u1
        obtain ⟨a2, q2, k2, e2⟩ := Go.Joins.slice_form Try.underlying23 u2
        obtain ⟨a3, q3, k3, e3⟩ := Go.Joins.slice_form Try.underlying23 u3
        simp only [List.cons.injEq, and_true] at e0 e1 e2 e3 e4 e5 e6
        subst e0 e1 e2 e3 e4 e5 e6
        obtain ⟨l2, hl2, b2⟩ := byt_in Try.underlying23 Try.underlying5 (by kernel_rfl) u2
        obtain ⟨l3, hl3, b3⟩ := byt_in Try.underlying23 Try.underlying5 (by kernel_rfl) u3
        have g2 := slice_bulk Try.underlying23 Try.underlying5 (by kernel_rfl) u2
        have g3 := slice_bulk Try.underlying23 Try.underlying5 (by kernel_rfl) u3
        have hd : d = .agg [y0.1, y1.1, y2.1, y3.1] := congrArg Prod.fst hx
        have hd0 : y0.1 = .agg [z0.1, z1.1, z2.1, z3.1] := congrArg Prod.fst hx0
        have hd1 : z1.1 = .lit (.string s.data.toList) := congrArg Prod.fst hs1
        rw [hd, hd0, hd1] at hk
        simp only [Rows.uptoBulkAll, Rows.uptoBulk] at hk
        have b0 := bounds_u32 w0
        have c4 := bounds_u16 w4
        have c5 := bounds_u8 w5
        have c6 := bounds_u16 w6
        have h0 : ((n0.toNat : Nat) : Int) = n0 := Int.toNat_of_nonneg b0.1
        have h4 : ((n4.toNat : Nat) : Int) = n4 := Int.toNat_of_nonneg c4.1
        have h5 : ((n5.toNat : Nat) : Int) = n5 := Int.toNat_of_nonneg c5.1
        have h6 : ((n6.toNat : Nat) : Int) = n6 := Int.toNat_of_nonneg c6.1
        refine ⟨⟨n0.toNat, s.data.toList, l2, l3⟩, _, _, n4.toNat, n5.toNat, n6.toNat, ?_, by show n0.toNat < 4294967296; omega, b2, b3, by show s.data.toList.length ≤ _; omega, by show l2.length ≤ _; omega, by show l3.length ≤ _; omega, by omega, by omega, by omega⟩
        rw [sOf_toList, h0, h4, h5, h6]
end Go.Proofs.Ytbcocblamocobaa
