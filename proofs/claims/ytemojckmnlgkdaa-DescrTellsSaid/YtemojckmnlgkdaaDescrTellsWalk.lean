/-
  The walk of the law DescrTells.
-/
import Derived.Test.YtemojckmnlgkdaaDsWorks
import Derived.Test.YtemojckmnlgkdaaSit
import Derived.Test.YtemojckmnlgkdaaOpenTm
import Derived.Deep.MidRow
namespace Go.Proofs.Ytemojckmnlgkdaa
open Go Go.RowKit
set_option linter.unusedVariables false

theorem rowAt_range {w : World} {b : Nat} {cs : Array Value} (h : RowAt w b cs) : w.rangeAt b 0 cs.toList := fun j v hv => by
  rw [Nat.zero_add]
  exact h.cell j v (by simpa using hv)

set_option maxRecDepth 100000 in
set_option maxHeartbeats 4000000 in
theorem descrTells_big1 (v : Value) (l : List UInt8) (t : Tm) (p : Value) (b : List UInt8) (q : Value) (d : List UInt8) (nm : List UInt8) (gu : List UInt8) (at_ : Nat) (w : World) (hv : Byt w v l) (ht : t.Fit) (hp : Byt w p b) (hq : Byt w q d) (hs : nm.length ≤ 9223372036854775807) (hg : gu.length = 16) (hat : at_ < 4294967296) (h1 : 262144 < l.length) :
    Calls Try.prog 3 #[v, tmV t, p, q, .string (sOf nm), gidV gu, .int .u32 (at_ : Int)] w fun e w' => e = .returned (.bool true) ∧ Below w.heap.size w w' := by
  have HV := Lib.hid hv
  obtain ⟨xv, cv, rfl, hv1, hv2⟩ := hv.shut
  clear hv
  obtain ⟨nv, hnv⟩ : ∃ n, Hid (n = l.length) := ⟨_, Lib.hid rfl⟩
  rw [← hnv.out] at HV hv1 ⊢
  have HP := Lib.hid hp
  obtain ⟨xp, cp, rfl, hp1, hp2⟩ := hp.shut
  clear hp
  obtain ⟨np, hnp⟩ : ∃ n, Hid (n = b.length) := ⟨_, Lib.hid rfl⟩
  rw [← hnp.out] at HP hp1 ⊢
  have HD := Lib.hid hq
  obtain ⟨xd, cd, rfl, hq1, hq2⟩ := hq.shut
  clear hq
  obtain ⟨nd, hnd⟩ : ∃ n, Hid (n = d.length) := ⟨_, Lib.hid rfl⟩
  rw [← hnd.out] at HD hq1 ⊢
  obtain ⟨S, hS⟩ : ∃ S, Hid (S = sOf nm) := ⟨_, Lib.hid rfl⟩
  obtain ⟨ns, hns⟩ : ∃ n, Hid (n = nm.length) := ⟨_, Lib.hid rfl⟩
  have hsz : S.size = ns := by
    rw [hS.out, hns.out]
    show nm.toArray.size = nm.length
    simp
  rw [← hS.out]
  rw [← hns.out] at hs
  obtain ⟨G, hG⟩ : ∃ G, Hid (G = (gu.map b8).toArray) := ⟨_, Lib.hid rfl⟩
  have d1 : decide ((262144 : Int) < (nv : Int)) = true := by have := hnv.out; simp; omega
  unfold gidV
  rw [← hG.out]
  obtain ⟨y, mo, dd, hh, mi, se⟩ := t
  unfold tmV
  simp only
  have HB_0 := Lib.hid (Below.refl w.heap.size w)
  have HB_1 := Lib.hid (HB_0.out.alloc HB_0.out.size (.cells #[.int .u16 y, .int .u8 mo, .int .u8 dd, .int .u8 hh, .int .u8 mi, .int .u8 se] 25))
  have RT_1 := Lib.hid (RowAt.new w #[.int .u16 y, .int .u8 mo, .int .u8 dd, .int .u8 hh, .int .u8 mi, .int .u8 se] 25 (w.heap.size) (by first | rfl | simp))
  have HB_2 := Lib.hid (HB_1.out.alloc HB_1.out.size (.cells G 27))
  go_enter Try.func3, Try.ntmps3
  go_wp2_with fail
  refine (works_calls _).mono ?_
  rintro e wz ⟨rfl, hb⟩
  have HBz := Lib.hid (HB_2.out.trans (hb.mono HB_2.out.size))
  clear hb
  go_wp2
  go_ret
  exact ⟨rfl, HBz.out⟩

set_option maxRecDepth 100000 in
set_option maxHeartbeats 4000000 in
theorem descrTells_big2 (v : Value) (l : List UInt8) (t : Tm) (p : Value) (b : List UInt8) (q : Value) (d : List UInt8) (nm : List UInt8) (gu : List UInt8) (at_ : Nat) (w : World) (hv : Byt w v l) (ht : t.Fit) (hp : Byt w p b) (hq : Byt w q d) (hs : nm.length ≤ 9223372036854775807) (hg : gu.length = 16) (hat : at_ < 4294967296) (h1 : l.length ≤ 262144) (h2 : 262144 < b.length) :
    Calls Try.prog 3 #[v, tmV t, p, q, .string (sOf nm), gidV gu, .int .u32 (at_ : Int)] w fun e w' => e = .returned (.bool true) ∧ Below w.heap.size w w' := by
  have HV := Lib.hid hv
  obtain ⟨xv, cv, rfl, hv1, hv2⟩ := hv.shut
  clear hv
  obtain ⟨nv, hnv⟩ : ∃ n, Hid (n = l.length) := ⟨_, Lib.hid rfl⟩
  rw [← hnv.out] at HV hv1 ⊢
  have HP := Lib.hid hp
  obtain ⟨xp, cp, rfl, hp1, hp2⟩ := hp.shut
  clear hp
  obtain ⟨np, hnp⟩ : ∃ n, Hid (n = b.length) := ⟨_, Lib.hid rfl⟩
  rw [← hnp.out] at HP hp1 ⊢
  have HD := Lib.hid hq
  obtain ⟨xd, cd, rfl, hq1, hq2⟩ := hq.shut
  clear hq
  obtain ⟨nd, hnd⟩ : ∃ n, Hid (n = d.length) := ⟨_, Lib.hid rfl⟩
  rw [← hnd.out] at HD hq1 ⊢
  obtain ⟨S, hS⟩ : ∃ S, Hid (S = sOf nm) := ⟨_, Lib.hid rfl⟩
  obtain ⟨ns, hns⟩ : ∃ n, Hid (n = nm.length) := ⟨_, Lib.hid rfl⟩
  have hsz : S.size = ns := by
    rw [hS.out, hns.out]
    show nm.toArray.size = nm.length
    simp
  rw [← hS.out]
  rw [← hns.out] at hs
  obtain ⟨G, hG⟩ : ∃ G, Hid (G = (gu.map b8).toArray) := ⟨_, Lib.hid rfl⟩
  have d1 : decide ((262144 : Int) < (nv : Int)) = false := by have := hnv.out; simp; omega
  have d2 : decide ((262144 : Int) < (np : Int)) = true := by have := hnp.out; simp; omega
  unfold gidV
  rw [← hG.out]
  obtain ⟨y, mo, dd, hh, mi, se⟩ := t
  unfold tmV
  simp only
  have HB_0 := Lib.hid (Below.refl w.heap.size w)
  have HB_1 := Lib.hid (HB_0.out.alloc HB_0.out.size (.cells #[.int .u16 y, .int .u8 mo, .int .u8 dd, .int .u8 hh, .int .u8 mi, .int .u8 se] 25))
  have RT_1 := Lib.hid (RowAt.new w #[.int .u16 y, .int .u8 mo, .int .u8 dd, .int .u8 hh, .int .u8 mi, .int .u8 se] 25 (w.heap.size) (by first | rfl | simp))
  have HB_2 := Lib.hid (HB_1.out.alloc HB_1.out.size (.cells G 27))
  go_enter Try.func3, Try.ntmps3
  go_wp2_with fail
  refine (works_calls _).mono ?_
  rintro e wz ⟨rfl, hb⟩
  have HBz := Lib.hid (HB_2.out.trans (hb.mono HB_2.out.size))
  clear hb
  go_wp2
  go_ret
  exact ⟨rfl, HBz.out⟩

set_option maxRecDepth 100000 in
set_option maxHeartbeats 4000000 in
theorem descrTells_big3 (v : Value) (l : List UInt8) (t : Tm) (p : Value) (b : List UInt8) (q : Value) (d : List UInt8) (nm : List UInt8) (gu : List UInt8) (at_ : Nat) (w : World) (hv : Byt w v l) (ht : t.Fit) (hp : Byt w p b) (hq : Byt w q d) (hs : nm.length ≤ 9223372036854775807) (hg : gu.length = 16) (hat : at_ < 4294967296) (h1 : l.length ≤ 262144) (h2 : b.length ≤ 262144) (h3 : 262144 < d.length) :
    Calls Try.prog 3 #[v, tmV t, p, q, .string (sOf nm), gidV gu, .int .u32 (at_ : Int)] w fun e w' => e = .returned (.bool true) ∧ Below w.heap.size w w' := by
  have HV := Lib.hid hv
  obtain ⟨xv, cv, rfl, hv1, hv2⟩ := hv.shut
  clear hv
  obtain ⟨nv, hnv⟩ : ∃ n, Hid (n = l.length) := ⟨_, Lib.hid rfl⟩
  rw [← hnv.out] at HV hv1 ⊢
  have HP := Lib.hid hp
  obtain ⟨xp, cp, rfl, hp1, hp2⟩ := hp.shut
  clear hp
  obtain ⟨np, hnp⟩ : ∃ n, Hid (n = b.length) := ⟨_, Lib.hid rfl⟩
  rw [← hnp.out] at HP hp1 ⊢
  have HD := Lib.hid hq
  obtain ⟨xd, cd, rfl, hq1, hq2⟩ := hq.shut
  clear hq
  obtain ⟨nd, hnd⟩ : ∃ n, Hid (n = d.length) := ⟨_, Lib.hid rfl⟩
  rw [← hnd.out] at HD hq1 ⊢
  obtain ⟨S, hS⟩ : ∃ S, Hid (S = sOf nm) := ⟨_, Lib.hid rfl⟩
  obtain ⟨ns, hns⟩ : ∃ n, Hid (n = nm.length) := ⟨_, Lib.hid rfl⟩
  have hsz : S.size = ns := by
    rw [hS.out, hns.out]
    show nm.toArray.size = nm.length
    simp
  rw [← hS.out]
  rw [← hns.out] at hs
  obtain ⟨G, hG⟩ : ∃ G, Hid (G = (gu.map b8).toArray) := ⟨_, Lib.hid rfl⟩
  have d1 : decide ((262144 : Int) < (nv : Int)) = false := by have := hnv.out; simp; omega
  have d2 : decide ((262144 : Int) < (np : Int)) = false := by have := hnp.out; simp; omega
  have d3 : decide ((262144 : Int) < (nd : Int)) = true := by have := hnd.out; simp; omega
  unfold gidV
  rw [← hG.out]
  obtain ⟨y, mo, dd, hh, mi, se⟩ := t
  unfold tmV
  simp only
  have HB_0 := Lib.hid (Below.refl w.heap.size w)
  have HB_1 := Lib.hid (HB_0.out.alloc HB_0.out.size (.cells #[.int .u16 y, .int .u8 mo, .int .u8 dd, .int .u8 hh, .int .u8 mi, .int .u8 se] 25))
  have RT_1 := Lib.hid (RowAt.new w #[.int .u16 y, .int .u8 mo, .int .u8 dd, .int .u8 hh, .int .u8 mi, .int .u8 se] 25 (w.heap.size) (by first | rfl | simp))
  have HB_2 := Lib.hid (HB_1.out.alloc HB_1.out.size (.cells G 27))
  go_enter Try.func3, Try.ntmps3
  go_wp2_with fail
  refine (works_calls _).mono ?_
  rintro e wz ⟨rfl, hb⟩
  have HBz := Lib.hid (HB_2.out.trans (hb.mono HB_2.out.size))
  clear hb
  go_wp2
  go_ret
  exact ⟨rfl, HBz.out⟩

set_option maxRecDepth 100000 in
set_option maxHeartbeats 4000000 in
theorem descrTells_big4 (v : Value) (l : List UInt8) (t : Tm) (p : Value) (b : List UInt8) (q : Value) (d : List UInt8) (nm : List UInt8) (gu : List UInt8) (at_ : Nat) (w : World) (hv : Byt w v l) (ht : t.Fit) (hp : Byt w p b) (hq : Byt w q d) (hs : nm.length ≤ 9223372036854775807) (hg : gu.length = 16) (hat : at_ < 4294967296) (h1 : l.length ≤ 262144) (h2 : b.length ≤ 262144) (h3 : d.length ≤ 262144) (h4 : 4096 < nm.length) :
    Calls Try.prog 3 #[v, tmV t, p, q, .string (sOf nm), gidV gu, .int .u32 (at_ : Int)] w fun e w' => e = .returned (.bool true) ∧ Below w.heap.size w w' := by
  have HV := Lib.hid hv
  obtain ⟨xv, cv, rfl, hv1, hv2⟩ := hv.shut
  clear hv
  obtain ⟨nv, hnv⟩ : ∃ n, Hid (n = l.length) := ⟨_, Lib.hid rfl⟩
  rw [← hnv.out] at HV hv1 ⊢
  have HP := Lib.hid hp
  obtain ⟨xp, cp, rfl, hp1, hp2⟩ := hp.shut
  clear hp
  obtain ⟨np, hnp⟩ : ∃ n, Hid (n = b.length) := ⟨_, Lib.hid rfl⟩
  rw [← hnp.out] at HP hp1 ⊢
  have HD := Lib.hid hq
  obtain ⟨xd, cd, rfl, hq1, hq2⟩ := hq.shut
  clear hq
  obtain ⟨nd, hnd⟩ : ∃ n, Hid (n = d.length) := ⟨_, Lib.hid rfl⟩
  rw [← hnd.out] at HD hq1 ⊢
  obtain ⟨S, hS⟩ : ∃ S, Hid (S = sOf nm) := ⟨_, Lib.hid rfl⟩
  obtain ⟨ns, hns⟩ : ∃ n, Hid (n = nm.length) := ⟨_, Lib.hid rfl⟩
  have hsz : S.size = ns := by
    rw [hS.out, hns.out]
    show nm.toArray.size = nm.length
    simp
  rw [← hS.out]
  rw [← hns.out] at hs
  obtain ⟨G, hG⟩ : ∃ G, Hid (G = (gu.map b8).toArray) := ⟨_, Lib.hid rfl⟩
  have d1 : decide ((262144 : Int) < (nv : Int)) = false := by have := hnv.out; simp; omega
  have d2 : decide ((262144 : Int) < (np : Int)) = false := by have := hnp.out; simp; omega
  have d3 : decide ((262144 : Int) < (nd : Int)) = false := by have := hnd.out; simp; omega
  have d4 : decide ((4096 : Int) < (ns : Int)) = true := by have := hns.out; simp; omega
  unfold gidV
  rw [← hG.out]
  obtain ⟨y, mo, dd, hh, mi, se⟩ := t
  unfold tmV
  simp only
  have HB_0 := Lib.hid (Below.refl w.heap.size w)
  have HB_1 := Lib.hid (HB_0.out.alloc HB_0.out.size (.cells #[.int .u16 y, .int .u8 mo, .int .u8 dd, .int .u8 hh, .int .u8 mi, .int .u8 se] 25))
  have RT_1 := Lib.hid (RowAt.new w #[.int .u16 y, .int .u8 mo, .int .u8 dd, .int .u8 hh, .int .u8 mi, .int .u8 se] 25 (w.heap.size) (by first | rfl | simp))
  have HB_2 := Lib.hid (HB_1.out.alloc HB_1.out.size (.cells G 27))
  go_enter Try.func3, Try.ntmps3
  go_wp2_with fail
  refine (works_calls _).mono ?_
  rintro e wz ⟨rfl, hb⟩
  have HBz := Lib.hid (HB_2.out.trans (hb.mono HB_2.out.size))
  clear hb
  go_wp2
  go_ret
  exact ⟨rfl, HBz.out⟩

set_option maxRecDepth 100000 in
set_option maxHeartbeats 4000000 in
theorem descrTells_main (v : Value) (l : List UInt8) (t : Tm) (p : Value) (b : List UInt8) (q : Value) (d : List UInt8) (nm : List UInt8) (gu : List UInt8) (at_ : Nat) (w : World) (hv : Byt w v l) (ht : t.Fit) (hp : Byt w p b) (hq : Byt w q d) (hs : nm.length ≤ 9223372036854775807) (hg : gu.length = 16) (hat : at_ < 4294967296) (h1 : l.length ≤ 262144) (h2 : b.length ≤ 262144) (h3 : d.length ≤ 262144) (h4 : nm.length ≤ 4096) :
    Calls Try.prog 3 #[v, tmV t, p, q, .string (sOf nm), gidV gu, .int .u32 (at_ : Int)] w fun e w' => e = .returned (.bool true) ∧ Below w.heap.size w w' := by
  have HV := Lib.hid hv
  obtain ⟨xv, cv, rfl, hv1, hv2⟩ := hv.shut
  clear hv
  obtain ⟨nv, hnv⟩ : ∃ n, Hid (n = l.length) := ⟨_, Lib.hid rfl⟩
  rw [← hnv.out] at HV hv1 ⊢
  have HP := Lib.hid hp
  obtain ⟨xp, cp, rfl, hp1, hp2⟩ := hp.shut
  clear hp
  obtain ⟨np, hnp⟩ : ∃ n, Hid (n = b.length) := ⟨_, Lib.hid rfl⟩
  rw [← hnp.out] at HP hp1 ⊢
  have HD := Lib.hid hq
  obtain ⟨xd, cd, rfl, hq1, hq2⟩ := hq.shut
  clear hq
  obtain ⟨nd, hnd⟩ : ∃ n, Hid (n = d.length) := ⟨_, Lib.hid rfl⟩
  rw [← hnd.out] at HD hq1 ⊢
  obtain ⟨S, hS⟩ : ∃ S, Hid (S = sOf nm) := ⟨_, Lib.hid rfl⟩
  obtain ⟨ns, hns⟩ : ∃ n, Hid (n = nm.length) := ⟨_, Lib.hid rfl⟩
  have hsz : S.size = ns := by
    rw [hS.out, hns.out]
    show nm.toArray.size = nm.length
    simp
  rw [← hS.out]
  rw [← hns.out] at hs
  obtain ⟨G, hG⟩ : ∃ G, Hid (G = (gu.map b8).toArray) := ⟨_, Lib.hid rfl⟩
  have d1 : decide ((262144 : Int) < (nv : Int)) = false := by have := hnv.out; simp; omega
  have d2 : decide ((262144 : Int) < (np : Int)) = false := by have := hnp.out; simp; omega
  have d3 : decide ((262144 : Int) < (nd : Int)) = false := by have := hnd.out; simp; omega
  have d4 : decide ((4096 : Int) < (ns : Int)) = false := by have := hns.out; simp; omega
  have hnv4 : nv ≤ 262144 := by have := hnv.out; omega
  obtain ⟨T', hT'⟩ : ∃ T, Hid (T = resT l) := ⟨_, Lib.hid rfl⟩
  obtain ⟨B', hB'⟩ : ∃ T, Hid (T = resB l) := ⟨_, Lib.hid rfl⟩
  obtain ⟨D', hD'⟩ : ∃ T, Hid (T = resD l) := ⟨_, Lib.hid rfl⟩
  obtain ⟨E', hE'⟩ : ∃ T, Hid (T = resE l) := ⟨_, Lib.hid rfl⟩
  obtain ⟨n1, hn1⟩ : ∃ n, Hid (n = B'.length) := ⟨_, Lib.hid rfl⟩
  obtain ⟨n2, hn2⟩ : ∃ n, Hid (n = D'.length) := ⟨_, Lib.hid rfl⟩
  have HR := Lib.hid (fun v W (h : Byt W v l) => read_form (dsRead_calls v l W h (by omega)) T' hT'.out B' hB'.out D' hD'.out E' hE'.out n1 n2 hn1.out hn2.out)
  have HRR := Lib.hid (fun v W (h : Byt W v l) => read_form (refDsRead_calls v l W h (by omega)) T' hT'.out B' hB'.out D' hD'.out E' hE'.out n1 n2 hn1.out hn2.out)
  obtain ⟨Fw, hFw⟩ : ∃ F, Hid (F = wrR t b d) := ⟨_, Lib.hid rfl⟩
  obtain ⟨E, hE⟩ : ∃ E, Hid (E = wrE t b.length) := ⟨_, Lib.hid rfl⟩
  obtain ⟨n, hn⟩ : ∃ n, Hid (n = Fw.length) := ⟨_, Lib.hid rfl⟩
  have HW := Lib.hid (fun p' q' W (h1 : Byt W p' b) (h2 : Byt W q' d) => write_form (dsWrite_calls t ht p' q' b d W h1 h2 (by omega) (by omega)) Fw hFw.out E hE.out n hn.out)
  have HRW := Lib.hid (fun p' q' W (h1 : Byt W p' b) (h2 : Byt W q' d) => write_form (refDsWrite_calls t ht p' q' b d W h1 h2 (by omega) (by omega)) Fw hFw.out E hE.out n hn.out)
  obtain ⟨Fx, hFx⟩ : ∃ F, Hid (F = dsX nm gu at_ t d) := ⟨_, Lib.hid rfl⟩
  have HX := Lib.hid (fun q' W (h : Byt W q' d) => text_calls nm gu at_ t ht q' d W hg (by omega) hat h (by omega))
  have HRX := Lib.hid (fun q' W (h : Byt W q' d) => refText_calls nm gu at_ t ht q' d W hg (by omega) hat h (by omega))
  rw [← hFx.out, ← hS.out] at HX HRX
  have HTV := Lib.hid (fun v W (h : Byt W v l) => own_shape _ _ W (twin_calls v l W h (by omega)))
  have HTP := Lib.hid (fun v W (h : Byt W v b) => own_shape _ _ W (twin_calls v b W h (by omega)))
  have HTQ := Lib.hid (fun v W (h : Byt W v d) => own_shape _ _ W (twin_calls v d W h (by omega)))
  rw [← hnv.out] at HTV
  rw [← hnp.out] at HTP
  rw [← hnd.out] at HTQ
  have HNQ := Lib.hid (fun W => run_tm_neq T' T' W)
  have HETT : Hid (eqT T' T' = true) := Lib.hid ((eqT_iff T' T').2 rfl)
  rw [HETT.out, Bool.not_true] at HNQ
  clear h1 h2 h3 h4
  unfold gidV at HX HRX ⊢
  rw [← hG.out] at HX HRX ⊢
  obtain ⟨y, mo, dd, hh, mi, se⟩ := t
  obtain ⟨y2, mo2, dd2, hh2, mi2, se2⟩ := T'
  unfold tmV at HR HRR HW HRW HX HRX HNQ ⊢
  simp only at HR HRR HW HRW HX HRX HNQ ⊢
  have HB_0 := Lib.hid (Below.refl w.heap.size w)
  have HB_1 := Lib.hid (HB_0.out.alloc HB_0.out.size (.cells #[.int .u16 y, .int .u8 mo, .int .u8 dd, .int .u8 hh, .int .u8 mi, .int .u8 se] 25))
  have V_1 := Lib.hid (Byt.below HV.out ((Below.refl _ _).alloc (Nat.le_refl _) (.cells #[.int .u16 y, .int .u8 mo, .int .u8 dd, .int .u8 hh, .int .u8 mi, .int .u8 se] 25)))
  have P_1 := Lib.hid (Byt.below HP.out ((Below.refl _ _).alloc (Nat.le_refl _) (.cells #[.int .u16 y, .int .u8 mo, .int .u8 dd, .int .u8 hh, .int .u8 mi, .int .u8 se] 25)))
  have Q_1 := Lib.hid (Byt.below HD.out ((Below.refl _ _).alloc (Nat.le_refl _) (.cells #[.int .u16 y, .int .u8 mo, .int .u8 dd, .int .u8 hh, .int .u8 mi, .int .u8 se] 25)))
  have RT_1 := Lib.hid (RowAt.new w #[.int .u16 y, .int .u8 mo, .int .u8 dd, .int .u8 hh, .int .u8 mi, .int .u8 se] 25 (w.heap.size) (by first | rfl | simp))
  have HB_2 := Lib.hid (HB_1.out.alloc HB_1.out.size (.cells G 27))
  have V_2 := Lib.hid (Byt.below V_1.out ((Below.refl _ _).alloc (Nat.le_refl _) (.cells G 27)))
  have P_2 := Lib.hid (Byt.below P_1.out ((Below.refl _ _).alloc (Nat.le_refl _) (.cells G 27)))
  have Q_2 := Lib.hid (Byt.below Q_1.out ((Below.refl _ _).alloc (Nat.le_refl _) (.cells G 27)))
  have RT_2 := Lib.hid (RowAt.alloc RT_1.out (.cells G 27))
  have RG_2 := Lib.hid (RowAt.new (w.alloc (.cells #[.int .u16 y, .int .u8 mo, .int .u8 dd, .int .u8 hh, .int .u8 mi, .int .u8 se] 25)) G 27 (w.heap.size + 1) (by simp))
  go_enter Try.func3, Try.ntmps3
  have SB0 := Lib.hid (HB_2.out.size)
  have RTP := Lib.hid (RT_2.out.lt)
  have RGP := Lib.hid (RG_2.out.lt)
  go_wp2_with fail
  refine (HTV.out _ _ V_2.out).mono ?_
  rintro e w3 ⟨xi, ci, rfl, ho, hb⟩
  have HB_3 := Lib.hid (HB_2.out.trans (hb.mono HB_2.out.size))
  have V_3 := Lib.hid (Byt.below V_2.out hb)
  have P_3 := Lib.hid (Byt.below P_2.out hb)
  have Q_3 := Lib.hid (Byt.below Q_2.out hb)
  have RT_3 := Lib.hid (RowAt.below RT_2.out hb)
  have RG_3 := Lib.hid (RowAt.below RG_2.out hb)
  have IN_3 := Lib.hid ho
  clear ho
  clear hb
  go_wp2_with fail
  refine (HR.out _ _ IN_3.out.byt).mono ?_
  rintro e w4 ⟨x1, c1, x2, c2, rfl, ho1, ho2, hb⟩
  have HB_4 := Lib.hid (HB_3.out.trans (hb.mono HB_3.out.size))
  have V_4 := Lib.hid (Byt.below V_3.out hb)
  have P_4 := Lib.hid (Byt.below P_3.out hb)
  have Q_4 := Lib.hid (Byt.below Q_3.out hb)
  have RT_4 := Lib.hid (RowAt.below RT_3.out hb)
  have RG_4 := Lib.hid (RowAt.below RG_3.out hb)
  have IN_4 := Lib.hid (OwnB.below IN_3.out hb)
  have PO_4 := Lib.hid ho1
  have QO_4 := Lib.hid ho2
  clear ho1 ho2
  have R1L := Lib.hid hb.size
  clear hb
  have BP := Lib.hid ((show w3.heap.size ≤ w3.heap.size from Nat.le_refl _))
  have HB_5 := Lib.hid (HB_4.out.alloc HB_4.out.size (.cells #[.int .u16 y2, .int .u8 mo2, .int .u8 dd2, .int .u8 hh2, .int .u8 mi2, .int .u8 se2] 25))
  have V_5 := Lib.hid (Byt.below V_4.out ((Below.refl _ _).alloc (Nat.le_refl _) (.cells #[.int .u16 y2, .int .u8 mo2, .int .u8 dd2, .int .u8 hh2, .int .u8 mi2, .int .u8 se2] 25)))
  have P_5 := Lib.hid (Byt.below P_4.out ((Below.refl _ _).alloc (Nat.le_refl _) (.cells #[.int .u16 y2, .int .u8 mo2, .int .u8 dd2, .int .u8 hh2, .int .u8 mi2, .int .u8 se2] 25)))
  have Q_5 := Lib.hid (Byt.below Q_4.out ((Below.refl _ _).alloc (Nat.le_refl _) (.cells #[.int .u16 y2, .int .u8 mo2, .int .u8 dd2, .int .u8 hh2, .int .u8 mi2, .int .u8 se2] 25)))
  have RT_5 := Lib.hid (RowAt.alloc RT_4.out (.cells #[.int .u16 y2, .int .u8 mo2, .int .u8 dd2, .int .u8 hh2, .int .u8 mi2, .int .u8 se2] 25))
  have RG_5 := Lib.hid (RowAt.alloc RG_4.out (.cells #[.int .u16 y2, .int .u8 mo2, .int .u8 dd2, .int .u8 hh2, .int .u8 mi2, .int .u8 se2] 25))
  have IN_5 := Lib.hid (OwnB.alloc IN_4.out (.cells #[.int .u16 y2, .int .u8 mo2, .int .u8 dd2, .int .u8 hh2, .int .u8 mi2, .int .u8 se2] 25))
  have PO_5 := Lib.hid (OwnB.alloc PO_4.out (.cells #[.int .u16 y2, .int .u8 mo2, .int .u8 dd2, .int .u8 hh2, .int .u8 mi2, .int .u8 se2] 25))
  have QO_5 := Lib.hid (OwnB.alloc QO_4.out (.cells #[.int .u16 y2, .int .u8 mo2, .int .u8 dd2, .int .u8 hh2, .int .u8 mi2, .int .u8 se2] 25))
  have R1_5 := Lib.hid (RowAt.new w4 #[.int .u16 y2, .int .u8 mo2, .int .u8 dd2, .int .u8 hh2, .int .u8 mi2, .int .u8 se2] 25 (w4.heap.size) (by first | rfl | simp))
  have BR := Lib.hid ((show w3.heap.size ≤ (w4.alloc (.cells #[.int .u16 y2, .int .u8 mo2, .int .u8 dd2, .int .u8 hh2, .int .u8 mi2, .int .u8 se2] 25)).heap.size by have := R1L.out; simp; omega))
  go_wp2_with fail
  refine (HRR.out _ _ V_5.out).mono ?_
  rintro e w6 ⟨x3, c3, x4, c4, rfl, ho1, ho2, hb⟩
  have HB_6 := Lib.hid (HB_5.out.trans (hb.mono HB_5.out.size))
  have V_6 := Lib.hid (Byt.below V_5.out hb)
  have P_6 := Lib.hid (Byt.below P_5.out hb)
  have Q_6 := Lib.hid (Byt.below Q_5.out hb)
  have RT_6 := Lib.hid (RowAt.below RT_5.out hb)
  have RG_6 := Lib.hid (RowAt.below RG_5.out hb)
  have IN_6 := Lib.hid (OwnB.below IN_5.out hb)
  have PO_6 := Lib.hid (OwnB.below PO_5.out hb)
  have QO_6 := Lib.hid (OwnB.below QO_5.out hb)
  have R1_6 := Lib.hid (RowAt.below R1_5.out hb)
  have RO_6 := Lib.hid ho1
  have SO_6 := Lib.hid ho2
  clear ho1 ho2
  clear hb
  have HB_7 := Lib.hid (HB_6.out.alloc HB_6.out.size (.cells #[.int .u16 y2, .int .u8 mo2, .int .u8 dd2, .int .u8 hh2, .int .u8 mi2, .int .u8 se2] 25))
  have V_7 := Lib.hid (Byt.below V_6.out ((Below.refl _ _).alloc (Nat.le_refl _) (.cells #[.int .u16 y2, .int .u8 mo2, .int .u8 dd2, .int .u8 hh2, .int .u8 mi2, .int .u8 se2] 25)))
  have P_7 := Lib.hid (Byt.below P_6.out ((Below.refl _ _).alloc (Nat.le_refl _) (.cells #[.int .u16 y2, .int .u8 mo2, .int .u8 dd2, .int .u8 hh2, .int .u8 mi2, .int .u8 se2] 25)))
  have Q_7 := Lib.hid (Byt.below Q_6.out ((Below.refl _ _).alloc (Nat.le_refl _) (.cells #[.int .u16 y2, .int .u8 mo2, .int .u8 dd2, .int .u8 hh2, .int .u8 mi2, .int .u8 se2] 25)))
  have RT_7 := Lib.hid (RowAt.alloc RT_6.out (.cells #[.int .u16 y2, .int .u8 mo2, .int .u8 dd2, .int .u8 hh2, .int .u8 mi2, .int .u8 se2] 25))
  have RG_7 := Lib.hid (RowAt.alloc RG_6.out (.cells #[.int .u16 y2, .int .u8 mo2, .int .u8 dd2, .int .u8 hh2, .int .u8 mi2, .int .u8 se2] 25))
  have IN_7 := Lib.hid (OwnB.alloc IN_6.out (.cells #[.int .u16 y2, .int .u8 mo2, .int .u8 dd2, .int .u8 hh2, .int .u8 mi2, .int .u8 se2] 25))
  have PO_7 := Lib.hid (OwnB.alloc PO_6.out (.cells #[.int .u16 y2, .int .u8 mo2, .int .u8 dd2, .int .u8 hh2, .int .u8 mi2, .int .u8 se2] 25))
  have QO_7 := Lib.hid (OwnB.alloc QO_6.out (.cells #[.int .u16 y2, .int .u8 mo2, .int .u8 dd2, .int .u8 hh2, .int .u8 mi2, .int .u8 se2] 25))
  have R1_7 := Lib.hid (RowAt.alloc R1_6.out (.cells #[.int .u16 y2, .int .u8 mo2, .int .u8 dd2, .int .u8 hh2, .int .u8 mi2, .int .u8 se2] 25))
  have RO_7 := Lib.hid (OwnB.alloc RO_6.out (.cells #[.int .u16 y2, .int .u8 mo2, .int .u8 dd2, .int .u8 hh2, .int .u8 mi2, .int .u8 se2] 25))
  have SO_7 := Lib.hid (OwnB.alloc SO_6.out (.cells #[.int .u16 y2, .int .u8 mo2, .int .u8 dd2, .int .u8 hh2, .int .u8 mi2, .int .u8 se2] 25))
  have R2_7 := Lib.hid (RowAt.new w6 #[.int .u16 y2, .int .u8 mo2, .int .u8 dd2, .int .u8 hh2, .int .u8 mi2, .int .u8 se2] 25 (w6.heap.size) (by first | rfl | simp))
  have R1c0 := R1_7.out.cell 0 (.int .u16 y2) rfl
  have R1c1 := R1_7.out.cell 1 (.int .u8 mo2) rfl
  have R1c2 := R1_7.out.cell 2 (.int .u8 dd2) rfl
  have R1c3 := R1_7.out.cell 3 (.int .u8 hh2) rfl
  have R1c4 := R1_7.out.cell 4 (.int .u8 mi2) rfl
  have R1c5 := R1_7.out.cell 5 (.int .u8 se2) rfl
  have R1z := R1_7.out.lt
  have R2c0 := R2_7.out.cell 0 (.int .u16 y2) rfl
  have R2c1 := R2_7.out.cell 1 (.int .u8 mo2) rfl
  have R2c2 := R2_7.out.cell 2 (.int .u8 dd2) rfl
  have R2c3 := R2_7.out.cell 3 (.int .u8 hh2) rfl
  have R2c4 := R2_7.out.cell 4 (.int .u8 mi2) rfl
  have R2c5 := R2_7.out.cell 5 (.int .u8 se2) rfl
  have R2z := R2_7.out.lt
  have hnq := HNQ.out
  go_wp2_with fail
  refine (same_form l l true (decide_eq_true rfl) _ _ _ IN_7.out.byt V_7.out).mono ?_
  rintro e w' ⟨rfl, rfl⟩
  clear R1c0 R1c1 R1c2 R1c3 R1c4 R1c5 R1z R2c0 R2c1 R2c2 R2c3 R2c4 R2c5 R2z hnq
  obtain ⟨Lg, hLg⟩ : ∃ L, Hid (L = (ownB (.slice xi nv ci)).toList) := ⟨_, Lib.hid rfl⟩
  have HLL : Hid (∀ x ∈ Lg, ((w.alloc (.cells #[.int .u16 y, .int .u8 mo, .int .u8 dd, .int .u8 hh, .int .u8 mi, .int .u8 se] 25)).alloc (.cells G 27)).heap.size ≤ x ∧ x < w3.heap.size) := Lib.hid (fun x hx => by
    rw [hLg.out, Option.mem_toList] at hx
    exact Own.lt IN_3.out x hx)
  have HLH : Hid (∀ g, xi = some ⟨g, 0, none⟩ → 0 < ci → g ∈ Lg) := Lib.hid (fun g hg hc => by
    rw [hLg.out, Option.mem_toList, hg]
    exact ownB_some hc)
  go_wp2_with fail
  go_loopw [24] (fun i wr => ∃ j : Nat, j ≤ nv ∧ i = .int .i64 j ∧ (∃ m : List UInt8, m.length = nv ∧ Hid (OwnB wr ((w.alloc (.cells #[.int .u16 y, .int .u8 mo, .int .u8 dd, .int .u8 hh, .int .u8 mi, .int .u8 se] 25)).alloc (.cells G 27)).heap.size (.slice xi nv ci) m)) ∧ Hid (Chg Lg (w6.alloc (.cells #[.int .u16 y2, .int .u8 mo2, .int .u8 dd2, .int .u8 hh2, .int .u8 mi2, .int .u8 se2] 25)) wr)) (fun i _ => nv - (intOf i).toNat)
  case atStart => exact ⟨0, Nat.zero_le _, rfl, ⟨l, hnv.out.symm, Lib.hid (IN_7.out.mono (by simp))⟩, Lib.hid (Chg.refl _ _)⟩
  case round =>
    obtain ⟨j, hj, rfl, ⟨m, hm, ho⟩, hch⟩ := hrel
    by_cases hlt : j < nv
    · obtain ⟨g, cap, e1, hg1, hg2, hc0, hc1, hc2⟩ := Own.head ho.out (by omega)
      simp only [Value.slice.injEq] at e1
      obtain ⟨rfl, _, rfl⟩ := e1
      have hmem := HLH.out g rfl hc0
      have hcl := OwnB.cell_at ho.out j (by omega)
      have hfz := OwnB.free ho.out (by omega) j
      have HST := Lib.hid (OwnB.set ho.out j hlt 85 85 rfl)
      have HCT := Lib.hid (hch.out.setCell (i := j) hmem (.int .u8 85))
      have hdl : decide ((j : Int) < (nv : Int)) = true := by simp; omega
      have HJ : Hid (j + 1 ≤ nv) := Lib.hid hlt
      have HM : Hid (m.length = nv) := Lib.hid hm
      clear hm hmem hg1 hg2 hc0 hc1 hc2
      go_wp2
      go_roundw
      case rel => exact ⟨j + 1, HJ.out, by go_num, ⟨_, by rw [List.length_set]; exact HM.out, HST⟩, HCT⟩
      case measure => have := HJ.out; simp [intOf]; omega
    · obtain rfl : j = nv := by omega
      have hdl : decide ((j : Int) < (j : Int)) = false := by simp
      have hne : ∀ x, x < ((w.alloc (.cells #[.int .u16 y, .int .u8 mo, .int .u8 dd, .int .u8 hh, .int .u8 mi, .int .u8 se] 25)).alloc (.cells G 27)).heap.size → x ∉ Lg := fun x hx h => by have := (HLL.out x h).1; omega
      have hlt2 : ∀ x ∈ Lg, x < w3.heap.size := fun x h => (HLL.out x h).2
      have HB_8 := Lib.hid (Below.andChg HB_7.out hch.out HB_7.out.size (fun x hx => Nat.le_trans SB0.out (HLL.out x hx).1))
      have RT_8 := Lib.hid (RT_7.out.chg hch.out (hne _ (by have := RTP.out; omega)))
      have RG_8 := Lib.hid (RG_7.out.chg hch.out (hne _ (by have := RGP.out; omega)))
      have P_8 := Lib.hid (HP.out.below HB_8.out)
      have Q_8 := Lib.hid (HD.out.below HB_8.out)
      have PO_8 := Lib.hid ((PO_7.out.chg' hch.out (fun x hx => Nat.lt_of_lt_of_le (hlt2 x hx) BP.out)).byt)
      have QO_8 := Lib.hid ((QO_7.out.chg' hch.out (fun x hx => Nat.lt_of_lt_of_le (hlt2 x hx) BP.out)).byt)
      have RO_8 := Lib.hid ((RO_7.out.chg' hch.out (fun x hx => Nat.lt_of_lt_of_le (hlt2 x hx) BR.out)).byt)
      have SO_8 := Lib.hid ((SO_7.out.chg' hch.out (fun x hx => Nat.lt_of_lt_of_le (hlt2 x hx) BR.out)).byt)
      clear hne hlt2 hch ho hm
      go_wp2_with fail
      refine (same_form B' B' true (decide_eq_true rfl) _ _ _ PO_8.out RO_8.out).mono ?_
      rintro e w' ⟨rfl, rfl⟩
      go_wp2_with fail
      refine (same_form D' D' true (decide_eq_true rfl) _ _ _ QO_8.out SO_8.out).mono ?_
      rintro e w' ⟨rfl, rfl⟩
      clear hdl
      go_wp2_with fail
      refine (HTP.out _ _ P_8.out).mono ?_
      rintro e w9 ⟨xx, cx, rfl, ho, hb⟩
      have HB_9 := Lib.hid (HB_8.out.trans (hb.mono HB_8.out.size))
      have RT_9 := Lib.hid (RowAt.below RT_8.out hb)
      have RG_9 := Lib.hid (RowAt.below RG_8.out hb)
      have P_9 := Lib.hid (Byt.below P_8.out hb)
      have Q_9 := Lib.hid (Byt.below Q_8.out hb)
      have X_9 := Lib.hid ho.byt
      clear ho
      clear hb
      go_wp2_with fail
      refine (HTQ.out _ _ Q_9.out).mono ?_
      rintro e w10 ⟨xy, cy, rfl, ho, hb⟩
      have HB_10 := Lib.hid (HB_9.out.trans (hb.mono HB_9.out.size))
      have RT_10 := Lib.hid (RowAt.below RT_9.out hb)
      have RG_10 := Lib.hid (RowAt.below RG_9.out hb)
      have P_10 := Lib.hid (Byt.below P_9.out hb)
      have Q_10 := Lib.hid (Byt.below Q_9.out hb)
      have X_10 := Lib.hid (Byt.below X_9.out hb)
      have Y_10 := Lib.hid ho.byt
      clear ho
      clear hb
      have RTc0 := RT_10.out.cell 0 (.int .u16 y) rfl
      have RTc1 := RT_10.out.cell 1 (.int .u8 mo) rfl
      have RTc2 := RT_10.out.cell 2 (.int .u8 dd) rfl
      have RTc3 := RT_10.out.cell 3 (.int .u8 hh) rfl
      have RTc4 := RT_10.out.cell 4 (.int .u8 mi) rfl
      have RTc5 := RT_10.out.cell 5 (.int .u8 se) rfl
      have RTz := RT_10.out.lt
      go_wp2_with fail
      refine (HW.out _ _ _ X_10.out Y_10.out).mono ?_
      rintro e w11 ⟨x5, c5, rfl, ho, hb⟩
      have HB_11 := Lib.hid (HB_10.out.trans (hb.mono HB_10.out.size))
      have RT_11 := Lib.hid (RowAt.below RT_10.out hb)
      have RG_11 := Lib.hid (RowAt.below RG_10.out hb)
      have P_11 := Lib.hid (Byt.below P_10.out hb)
      have Q_11 := Lib.hid (Byt.below Q_10.out hb)
      have X_11 := Lib.hid (Byt.below X_10.out hb)
      have Y_11 := Lib.hid (Byt.below Y_10.out hb)
      have C_11 := Lib.hid ho.byt
      clear ho
      clear hb RTc0 RTc1 RTc2 RTc3 RTc4 RTc5 RTz
      have RTc0 := RT_11.out.cell 0 (.int .u16 y) rfl
      have RTc1 := RT_11.out.cell 1 (.int .u8 mo) rfl
      have RTc2 := RT_11.out.cell 2 (.int .u8 dd) rfl
      have RTc3 := RT_11.out.cell 3 (.int .u8 hh) rfl
      have RTc4 := RT_11.out.cell 4 (.int .u8 mi) rfl
      have RTc5 := RT_11.out.cell 5 (.int .u8 se) rfl
      have RTz := RT_11.out.lt
      go_wp2_with fail
      refine (HRW.out _ _ _ P_11.out Q_11.out).mono ?_
      rintro e w12 ⟨x6, c6, rfl, ho, hb⟩
      have HB_12 := Lib.hid (HB_11.out.trans (hb.mono HB_11.out.size))
      have RT_12 := Lib.hid (RowAt.below RT_11.out hb)
      have RG_12 := Lib.hid (RowAt.below RG_11.out hb)
      have P_12 := Lib.hid (Byt.below P_11.out hb)
      have Q_12 := Lib.hid (Byt.below Q_11.out hb)
      have X_12 := Lib.hid (Byt.below X_11.out hb)
      have Y_12 := Lib.hid (Byt.below Y_11.out hb)
      have C_12 := Lib.hid (Byt.below C_11.out hb)
      have D_12 := Lib.hid ho.byt
      clear ho
      clear hb RTc0 RTc1 RTc2 RTc3 RTc4 RTc5 RTz
      go_wp2_with fail
      refine (same_form Fw Fw true (decide_eq_true rfl) _ _ _ C_12.out D_12.out).mono ?_
      rintro e w' ⟨rfl, rfl⟩
      go_wp2_with fail
      refine (same_form b b true (decide_eq_true rfl) _ _ _ X_12.out P_12.out).mono ?_
      rintro e w' ⟨rfl, rfl⟩
      go_wp2_with fail
      refine (same_form d d true (decide_eq_true rfl) _ _ _ Y_12.out Q_12.out).mono ?_
      rintro e w' ⟨rfl, rfl⟩
      go_wp2_with fail
      have HGL : Hid (G.toList.length = 16) := Lib.hid (by rw [hG.out]; simp [hg])
      refine' wp_region_grows (by kernel_rfl) (fun w' => Hid (RowAt w' w.heap.size #[.int .u16 y, .int .u8 mo, .int .u8 dd, .int .u8 hh, .int .u8 mi, .int .u8 se]) ∧ Hid (RowAt w' (w.heap.size + 1) G) ∧ Hid (Below w.heap.size w w') ∧ Hid (Byt w' (.slice xd nd cd) d) ∧ Hid (Byt w' (.slice xy nd cy) d)) [isV _, isV _, isV _, isV _, isV _, fun v w' => Byt w' v Fx, isV _, isV _, isV _, isV _, isV _, fun v w' => Byt w' v Fx, isV _, isV _, isV _, isV _, isV _, isV _, isV _, isV _, isV _, isV _] 157 [[], [], [], [], [], [(0, some 136), (1, some 137), (2, some 138), (3, some 139), (4, some 140)], [], [], [], [], [], [(6, some 142), (7, some 143), (8, some 144), (9, some 145), (10, some 146)], [(5, some 141), (11, some 147)], [(12, some 148)], [(13, some 149)], [(13, some 149)], [(14, some 150), (15, some 151), (13, some 149)], [(13, some 149), (16, some 152)], [(17, some 153)], [(18, some 154)], [(18, some 154), (19, some 155)], [(20, some 156)]] [(0, some 136), (1, some 137), (2, some 138), (3, some 139), (4, some 140), (5, some 141), (6, some 142), (7, some 143), (8, some 144), (9, some 145), (10, some 146), (11, some 147), (12, some 148), (13, some 149), (14, some 150), (15, some 151), (16, some 152), (17, some 153), (18, some 154), (19, some 155), (20, some 156), (21, some 14)] rfl (by kernel_rfl) ⟨fun _ _ _ _ h => h, fun _ _ _ _ h => h, fun _ _ _ _ h => h, fun _ _ _ _ h => h, fun _ _ _ _ h => h, fun _ _ _ hg h => Byt.below h hg, fun _ _ _ _ h => h, fun _ _ _ _ h => h, fun _ _ _ _ h => h, fun _ _ _ _ h => h, fun _ _ _ _ h => h, fun _ _ _ hg h => Byt.below h hg, fun _ _ _ _ h => h, fun _ _ _ _ h => h, fun _ _ _ _ h => h, fun _ _ _ _ h => h, fun _ _ _ _ h => h, fun _ _ _ _ h => h, fun _ _ _ _ h => h, fun _ _ _ _ h => h, fun _ _ _ _ h => h, fun _ _ _ _ h => h, trivial⟩ (fun _ a a' _ e h => by cases a; cases a'; cases e; exact h) ?hS ?hsteps ?hend
      case hS =>
        intro w' hg
        exact ⟨Lib.hid ((RT_12.out.drew).below hg), Lib.hid ((RG_12.out.drew).below hg), Lib.hid (HB_12.out.drew.trans (hg.mono HB_12.out.size)), Lib.hid ((Q_12.out.below (Below.refl _ _).drew).below hg), Lib.hid ((Y_12.out.below (Below.refl _ _).drew).below hg)⟩
      case hsteps =>
        refine ⟨?_, ?_, ?_, ?_, ?_, ?_, ?_, ?_, ?_, ?_, ?_, ?_, ?_, ?_, ?_, ?_, ?_, ?_, ?_, ?_, ?_, ?_, trivial⟩
        · intro w' hs
          simp only [AllV, rgPut]
          clear hs
          first
            | (refine OpOk.off ?_ ?_ <;> rfl)
            | (refine OpOk.run ?_ (fun K hK => ?_)
               · rfl
               go_simp
               refine hK.out _ _ (Grows.refl _) ?_
               exact rfl)
        · -- 1: Op.load 27 t12
          intro w' hs
          simp only [AllV, rgPut]
          obtain ⟨hrow, hrg, hbb, hq, hy⟩ := hs
          refine OpOk.run ?_ (fun K hK => ?_)
          · rfl
          refine wp_load_mid 27 _ rfl (w.heap.size + 1) 0 rfl G.toList _ (rowAt_range hrg.out) Try.underlying27 rfl (by rw [HGL.out]; kernel_rfl) ?_
          rw [Array.toArray_toList]
          refine hK.out _ _ (Grows.refl _) ?_
          exact rfl
        · intro w' hs
          simp only [AllV, rgPut]
          clear hs
          first
            | (refine OpOk.off ?_ ?_ <;> rfl)
            | (refine OpOk.run ?_ (fun K hK => ?_)
               · rfl
               go_simp
               refine hK.out _ _ (Grows.refl _) ?_
               exact rfl)
        · -- 3: Op.load 25 t8
          intro w' hs
          simp only [AllV, rgPut]
          obtain ⟨hrow, hrg, hbb, hq, hy⟩ := hs
          have r0 := hrow.out.cell 0 (.int .u16 y) rfl
          have r1 := hrow.out.cell 1 (.int .u8 mo) rfl
          have r2 := hrow.out.cell 2 (.int .u8 dd) rfl
          have r3 := hrow.out.cell 3 (.int .u8 hh) rfl
          have r4 := hrow.out.cell 4 (.int .u8 mi) rfl
          have r5 := hrow.out.cell 5 (.int .u8 se) rfl
          have rz := hrow.out.lt
          refine OpOk.run ?_ (fun K hK => ?_)
          · rfl
          go_simp
          refine hK.out _ _ (Grows.refl _) ?_
          exact rfl
        · intro w' hs
          simp only [AllV, rgPut]
          clear hs
          first
            | (refine OpOk.off ?_ ?_ <;> rfl)
            | (refine OpOk.run ?_ (fun K hK => ?_)
               · rfl
               go_simp
               refine hK.out _ _ (Grows.refl _) ?_
               exact rfl)
        · intro w' hs
          simp only [AllV, rdP, isV, forall_eq, rgPut, Act.put, List.setIfInBounds_toArray, List.set_cons_zero, List.set_cons_succ]
          obtain ⟨hrow, hrg, hbb, hq, hy⟩ := hs
          first
            | (refine OpOk.off ?_ ?_ <;> rfl)
            | (refine OpOk.run ?_ (fun K hK => ?_)
               · rfl
               go_simp
               go_at_call 14
               refine (HX.out _ _ hy.out).mono ?_
               rintro e w1 ⟨v1, rfl, ho, hb⟩
               refine hK.out _ _ hb ?_
               exact ho.byt
              )
        · intro w' hs
          simp only [AllV, rgPut]
          clear hs
          first
            | (refine OpOk.off ?_ ?_ <;> rfl)
            | (refine OpOk.run ?_ (fun K hK => ?_)
               · rfl
               go_simp
               refine hK.out _ _ (Grows.refl _) ?_
               exact rfl)
        · -- 7: Op.load 27 t12
          intro w' hs
          simp only [AllV, rgPut]
          obtain ⟨hrow, hrg, hbb, hq, hy⟩ := hs
          refine OpOk.run ?_ (fun K hK => ?_)
          · rfl
          refine wp_load_mid 27 _ rfl (w.heap.size + 1) 0 rfl G.toList _ (rowAt_range hrg.out) Try.underlying27 rfl (by rw [HGL.out]; kernel_rfl) ?_
          rw [Array.toArray_toList]
          refine hK.out _ _ (Grows.refl _) ?_
          exact rfl
        · intro w' hs
          simp only [AllV, rgPut]
          clear hs
          first
            | (refine OpOk.off ?_ ?_ <;> rfl)
            | (refine OpOk.run ?_ (fun K hK => ?_)
               · rfl
               go_simp
               refine hK.out _ _ (Grows.refl _) ?_
               exact rfl)
        · -- 9: Op.load 25 t8
          intro w' hs
          simp only [AllV, rgPut]
          obtain ⟨hrow, hrg, hbb, hq, hy⟩ := hs
          have r0 := hrow.out.cell 0 (.int .u16 y) rfl
          have r1 := hrow.out.cell 1 (.int .u8 mo) rfl
          have r2 := hrow.out.cell 2 (.int .u8 dd) rfl
          have r3 := hrow.out.cell 3 (.int .u8 hh) rfl
          have r4 := hrow.out.cell 4 (.int .u8 mi) rfl
          have r5 := hrow.out.cell 5 (.int .u8 se) rfl
          have rz := hrow.out.lt
          refine OpOk.run ?_ (fun K hK => ?_)
          · rfl
          go_simp
          refine hK.out _ _ (Grows.refl _) ?_
          exact rfl
        · intro w' hs
          simp only [AllV, rgPut]
          clear hs
          first
            | (refine OpOk.off ?_ ?_ <;> rfl)
            | (refine OpOk.run ?_ (fun K hK => ?_)
               · rfl
               go_simp
               refine hK.out _ _ (Grows.refl _) ?_
               exact rfl)
        · intro w' hs
          simp only [AllV, rdP, isV, forall_eq, rgPut, Act.put, List.setIfInBounds_toArray, List.set_cons_zero, List.set_cons_succ]
          obtain ⟨hrow, hrg, hbb, hq, hy⟩ := hs
          first
            | (refine OpOk.off ?_ ?_ <;> rfl)
            | (refine OpOk.run ?_ (fun K hK => ?_)
               · rfl
               go_simp
               go_at_call 15
               refine (HRX.out _ _ hq.out).mono ?_
               rintro e w1 ⟨v1, rfl, ho, hb⟩
               refine hK.out _ _ hb ?_
               exact ho.byt
              )
        · -- 12: Op.call { value (Operand.func 11), args := #[t141, t147], ar
          intro w' hs
          simp only [AllV, rdP, rgPut, Act.put, List.setIfInBounds_toArray, List.set_cons_zero, List.set_cons_succ]
          obtain ⟨hrow, hrg, hbb, hq, hy⟩ := hs
          intro v1 h1 v2 h2
          refine OpOk.run ?_ (fun K hK => ?_)
          · rfl
          go_simp
          go_at_call 11
          refine (same_form Fx Fx true (decide_eq_true rfl) _ _ _ h1 h2).mono ?_
          rintro e w1 ⟨rfl, rfl⟩
          refine hK.out _ _ (Grows.refl _) ?_
          exact rfl
        · intro w' hs
          simp only [AllV, rdP, isV, forall_eq, rgPut, Act.put, List.setIfInBounds_toArray, List.set_cons_zero, List.set_cons_succ]
          clear hs
          first
            | (refine OpOk.off ?_ ?_ <;> rfl)
            | (refine OpOk.run ?_ (fun K hK => ?_)
               · rfl
               go_simp
               refine hK.out _ _ (Grows.refl _) ?_
               exact rfl)
        · intro w' hs
          simp only [AllV, rdP, isV, forall_eq, rgPut, Act.put, List.setIfInBounds_toArray, List.set_cons_zero, List.set_cons_succ]
          clear hs
          first
            | (refine OpOk.off ?_ ?_ <;> rfl)
            | (refine OpOk.run ?_ (fun K hK => ?_)
               · rfl
               go_simp
               refine hK.out _ _ (Grows.refl _) ?_
               exact rfl)
        · intro w' hs
          simp only [AllV, rdP, isV, forall_eq, rgPut, Act.put, List.setIfInBounds_toArray, List.set_cons_zero, List.set_cons_succ]
          clear hs
          first
            | (refine OpOk.off ?_ ?_ <;> rfl)
            | (refine OpOk.run ?_ (fun K hK => ?_)
               · rfl
               go_simp
               refine hK.out _ _ (Grows.refl _) ?_
               exact rfl)
        · intro w' hs
          simp only [AllV, rdP, isV, forall_eq, rgPut, Act.put, List.setIfInBounds_toArray, List.set_cons_zero, List.set_cons_succ]
          obtain ⟨hrow, hrg, hbb, hq, hy⟩ := hs
          first
            | (refine OpOk.off ?_ ?_ <;> rfl)
            | (refine OpOk.run ?_ (fun K hK => ?_)
               · rfl
               go_simp
               go_at_call 11
               refine (same_form d d true (decide_eq_true rfl) _ _ _ hy.out hq.out).mono ?_
               rintro e w1 ⟨rfl, rfl⟩
               refine hK.out _ _ (Grows.refl _) ?_
               exact rfl
              )
        · intro w' hs
          simp only [AllV, rdP, isV, forall_eq, rgPut, Act.put, List.setIfInBounds_toArray, List.set_cons_zero, List.set_cons_succ]
          clear hs
          first
            | (refine OpOk.off ?_ ?_ <;> rfl)
            | (refine OpOk.run ?_ (fun K hK => ?_)
               · rfl
               go_simp
               refine hK.out _ _ (Grows.refl _) ?_
               exact rfl)
        · intro w' hs
          simp only [AllV, rdP, isV, forall_eq, rgPut, Act.put, List.setIfInBounds_toArray, List.set_cons_zero, List.set_cons_succ]
          clear hs
          first
            | (refine OpOk.off ?_ ?_ <;> rfl)
            | (refine OpOk.run ?_ (fun K hK => ?_)
               · rfl
               go_simp
               refine hK.out _ _ (Grows.refl _) ?_
               exact rfl)
        · intro w' hs
          simp only [AllV, rdP, isV, forall_eq, rgPut, Act.put, List.setIfInBounds_toArray, List.set_cons_zero, List.set_cons_succ]
          obtain ⟨hrow, hrg, hbb, hq, hy⟩ := hs
          first
            | (refine OpOk.off ?_ ?_ <;> rfl)
            | (refine OpOk.run ?_ (fun K hK => ?_)
               · rfl
               go_simp
               go_at_call 7
               refine (works_calls _).mono ?_
               rintro e w1 ⟨rfl, hb⟩
               refine hK.out _ _ hb ?_
               exact rfl
              )
        · intro w' hs
          simp only [AllV, rdP, isV, forall_eq, rgPut, Act.put, List.setIfInBounds_toArray, List.set_cons_zero, List.set_cons_succ]
          clear hs
          first
            | (refine OpOk.off ?_ ?_ <;> rfl)
            | (refine OpOk.run ?_ (fun K hK => ?_)
               · rfl
               go_simp
               refine hK.out _ _ (Grows.refl _) ?_
               exact rfl)
        · intro w' hs
          simp only [AllV, rdP, isV, forall_eq, rgPut, Act.put, List.setIfInBounds_toArray, List.set_cons_zero, List.set_cons_succ]
          clear hs
          first
            | (refine OpOk.off ?_ ?_ <;> rfl)
            | (refine OpOk.run ?_ (fun K hK => ?_)
               · rfl
               go_simp
               refine hK.out _ _ (Grows.refl _) ?_
               exact rfl)
      case hend =>
        intro w' hs
        simp only [AllV, rdP, isV, forall_eq, rgPut, Act.put, List.setIfInBounds_toArray, List.set_cons_zero, List.set_cons_succ]
        intro a5 b5 a11 b11
        clear b5 b11
        obtain ⟨hrow, hrg, hbb, hq, hy⟩ := hs
        go_wp2
        go_ret
        exact ⟨rfl, hbb.out⟩

theorem descrTells_all (v : Value) (l : List UInt8) (t : Tm) (p : Value) (b : List UInt8) (q : Value) (d : List UInt8) (nm : List UInt8) (gu : List UInt8) (at_ : Nat) (w : World) (hv : Byt w v l) (ht : t.Fit) (hp : Byt w p b) (hq : Byt w q d) (hs : nm.length ≤ 9223372036854775807) (hg : gu.length = 16) (hat : at_ < 4294967296) :
    Calls Try.prog 3 #[v, tmV t, p, q, .string (sOf nm), gidV gu, .int .u32 (at_ : Int)] w fun e w' => e = .returned (.bool true) ∧ Below w.heap.size w w' := by
  by_cases h1 : l.length ≤ 262144
  · by_cases h2 : b.length ≤ 262144
    · by_cases h3 : d.length ≤ 262144
      · by_cases h4 : nm.length ≤ 4096
        · exact descrTells_main v l t p b q d nm gu at_ w hv ht hp hq hs hg hat h1 h2 h3 h4
        · exact descrTells_big4 v l t p b q d nm gu at_ w hv ht hp hq hs hg hat h1 h2 h3 (by omega)
      · exact descrTells_big3 v l t p b q d nm gu at_ w hv ht hp hq hs hg hat h1 h2 (by omega)
    · exact descrTells_big2 v l t p b q d nm gu at_ w hv ht hp hq hs hg hat h1 (by omega)
  · exact descrTells_big1 v l t p b q d nm gu at_ w hv ht hp hq hs hg hat (by omega)
theorem descrTells_walk (v : Value) (l : List UInt8) (t : Tm) (p : Value) (b : List UInt8) (q : Value) (d : List UInt8) (s : ByteArray) (gu : List UInt8) (z : Int) (w : World) (hv : Byt w v l) (ht : t.Fit) (hp : Byt w p b) (hq : Byt w q d) (hs : s.size ≤ maxLen) (hg : gu.length = 16) (hz : (Lit.int .u32 z).wf = true) :
    Calls Try.prog 3 #[v, tmV t, p, q, .string s, .agg (gu.map b8).toArray, .int .u32 z] w fun e w' => e = .returned (.bool true) ∧ Below w.heap.size w w' := by
  have hb := bounds_u32 hz
  have hz2 : ((z.toNat : Nat) : Int) = z := Int.toNat_of_nonneg hb.1
  have h1 : s.data.toList.length = s.size := by simp
  unfold maxLen at hs
  have := descrTells_all v l t p b q d s.data.toList gu z.toNat w hv ht hp hq (by omega) hg (by omega)
  rw [sOf_toList, hz2] at this
  exact this
end Go.Proofs.Ytemojckmnlgkdaa
