/-
  Contracts of octet.put, in both orders; Put, PutBig; the document's low, Put, PutBig.
-/
import Derived.Test.YtilanncobbdlfaaOct4
import Derived.StillTailTactics
namespace Go.Proofs.Ytilanncobbdlfaa
open Go Go.RowKit

set_option maxHeartbeats 1600000 in
theorem putS_calls (v : Value) (l : List UInt8) (X : Nat) (n : Int) (w : World) (hv : Byt w v l) (_hX : X < 2 ^ 64) (hl : l.length ≤ 1000000000000) :
    Calls Try.prog 42 #[v, .int .u64 X, .int .i64 n, .func (.func 43) #[] #[]] w fun e w' => ∃ v', e = .returned v' ∧ OwnB w' w.heap.size v' (putL l X n) ∧ Below w.heap.size w w' := by
  obtain ⟨a, cap, rfl, h1, h2, _⟩ := hv.open
  cases hs : sizedB n with
  | false =>
    have hno : Hid (putL l X n = l) := by unfold Hid putL; rw [hs]; rfl
    have hq := fun w => sized_calls n w
    rw [hs] at hq
    have HQ := Lib.hid hq
    clear hq hs
    go_enter Try.func42, Try.ntmps42
    go_wp2_with (first
      | (go_at_call 40; refine (clone_calls _ l _ hv (by omega)).mono ?_; rintro e w1 ⟨v1, rfl, hown, hb1⟩)
      | (go_at_call 50; refine (HQ.out _).mono ?_; rintro e w2 ⟨rfl, hb2⟩))
    go_ret
    exact ⟨_, rfl, by rw [hno.out]; exact hown.below hb2, hb1.trans (hb2.mono hb1.size)⟩
  | true =>
    have hsz := (sizedB_iff n).1 hs
    have hq := fun w => sized_calls n w
    rw [hs] at hq
    have HQ := Lib.hid hq
    have hyes : Hid (putL l X n = l ++ lowN X n.toNat) := by unfold Hid putL; rw [hs]; rfl
    clear hq hs
    obtain ⟨N, rfl⟩ := Int.eq_ofNat_of_zero_le (show 0 ≤ n by omega)
    rw [Int.toNat_natCast] at hyes
    have hN : 1 ≤ N ∧ N ≤ 8 := by omega
    clear hsz
    obtain ⟨T, hT⟩ : ∃ T, Hid (T = lowN X N) := ⟨_, Lib.hid rfl⟩
    rw [← hT.out] at hyes
    have hTl : Hid (T.length = N) := Lib.hid (by rw [hT.out]; simp [lowN_length])
    have hTg : Hid (∀ k, k < N → T.getD k 0 = UInt8.ofNat (X / 2 ^ (8 * k))) := Lib.hid (fun k hk => by
      rw [hT.out]
      exact lowN_getD X N k hk)
    go_enter Try.func42, Try.ntmps42
    go_wp2_with (first
      | (go_at_call 40; refine (clone_calls _ l _ hv (by omega)).mono ?_; rintro e w1 ⟨v1, rfl, hown, hb1⟩)
      | (go_at_call 50; refine (HQ.out _).mono ?_; rintro e w2 ⟨rfl, hb2⟩)
      | (at_builtin; refine wpList_append_zeros rfl _ _ rfl w.heap.size _ l rfl (hown.below hb2) N rfl ?c1 ?c2 ?_))
    case c1 => omega
    case c2 => exact Nat.le_trans hb1.size hb2.size
    intro v3 w3 hown3 hg3
    have hb3 : Below w.heap.size w w3 := (hb1.trans (hb2.mono hb1.size)).grown hg3 (Nat.le_trans hb1.size hb2.size) (fun j hj => ((hown.below hb2).lt j hj).1)
    clear hown hb1 hb2 hg3
    obtain ⟨g, cap3, rfl, hg1, _, _, hg4, hg5⟩ := hown3.head (by simp; omega)
    rw [show (l ++ List.replicate N (0 : UInt8)).length = l.length + N by simp] at hown3 hg4 ⊢
    unfold maxLen at hg5
    obtain ⟨L, hL⟩ : ∃ L, Hid (L = l.length + N) := ⟨_, Lib.hid rfl⟩
    rw [← hL.out] at hown3 hg4 ⊢
    go_wp2_with fail
    go_loopw [21] (fun i wr => ∃ k : Nat, k ≤ N ∧ i = .int .i64 k ∧ OwnB wr w.heap.size (.slice (some ⟨g, 0, none⟩) L cap3) (l ++ mixL T N (fun j => decide (j < k))) ∧ Below w.heap.size w wr) (fun i _ => N - (intOf i).toNat)
    case atStart =>
      refine ⟨0, by omega, rfl, ?_, hb3⟩
      rw [mixL_none T N _ (fun j hj => decide_eq_false (by omega))]
      exact hown3
    case round =>
      obtain ⟨k, hk, rfl, hownr, hbr⟩ := hrel
      clear hown3 hb3
      by_cases hlt : k < N
      · have hset := hownr.set (l.length + k) (by rw [hL.out]; omega) (T.getD k 0) (((X / 2 ^ (8 * k) : Nat) : Int) % 256) (by
          rw [hTg.out k hlt, UInt8.toNat_ofNat']
          simp)
        rw [append_set, mixL_set T N _ (fun j => decide (j < (k + 1))) k (fun j hj => by
          rw [Bool.eq_iff_iff]
          simp
          omega)] at hset
        have hfz := hownr.free (by rw [hL.out]; omega) (l.length + k)
        obtain ⟨u0, hcw⟩ := hownr.cell_some (l.length + k) (by rw [List.length_append, mixL_length]; omega)
        obtain ⟨J, hJ⟩ : ∃ J, Hid (J = l.length + k) := ⟨_, Lib.hid rfl⟩
        obtain ⟨M, hM⟩ : ∃ M : Int, Hid (M = 8 * (k : Int)) := ⟨_, Lib.hid rfl⟩
        obtain ⟨V, hV⟩ : ∃ V : Nat, Hid (V = X / 2 ^ (8 * k)) := ⟨_, Lib.hid rfl⟩
        rw [← hV.out] at hset
        have hm1 : IntKind.i64.wrap ((l.length : Int) + k) = (J : Int) := by
          rw [hJ.out]
          rw [IntWalk.i64_in _ (by omega)]
          simp
        have hm2 : IntKind.i64.wrap (8 * (k : Int)) = M := by
          rw [hM.out]
          exact IntWalk.i64_in _ (by omega)
        have hm3 : Op.shift .shr .u64 (X : Int) .i64 M = pure (.int .u64 V) := by
          rw [hM.out, hV.out, shift_shr .u64 .i64 _ _ (by omega) (by show _ ≤ ((64 : Nat) : Int); omega)]
          congr 2
        rw [← hJ.out] at hset hfz hcw
        have hJl : J < L := by rw [hJ.out, hL.out]; omega
        have hJi : (J : Int) < (L : Int) := by omega
        have HS := Lib.hid hset
        clear hset
        have S1 := calls_still (straight_calls (k : Int) wr.drew)
        have H1 := Lib.hid S1
        clear S1
        have hk64 : (k : Int) ≤ 8 := by omega
        go_wp2
        refine wp_region_still_tail 13 (by kernel_rfl) (by kernel_rfl) ?_
        simp only [List.take_succ_cons, List.take_zero, List.drop_succ_cons, List.drop_zero]
        repeat (first | still_step | still_call H1.out)
        refine wpStill_nil ?_
        change wpList _ _ _ _ _ wr.drew
        go_wp2
        exact ⟨⟨k + 1, by omega, by go_num, HS.out, (hbr.setCell (p := ⟨g, J, none⟩) hg1 _).drew⟩, by simp [intOf]; omega⟩
      · obtain rfl : k = N := by omega
        rw [mixL_all T k _ hTl.out (fun j hj => decide_eq_true hj)] at hownr
        go_wp2
        go_ret
        exact ⟨_, rfl, by rw [hyes.out]; exact hownr, hbr⟩
end Go.Proofs.Ytilanncobbdlfaa
