import Derived.Test.YtljfknneijmfoaaPoints
namespace Go.Proofs.Ytljfknneijmfoaa
open Go.RowKit Go.Maps Go.WideMaps Go.Lib

theorem contains53 {w : World} {A : Option Addr} {c : Nat} {zs : List Int} (hI : IntRow w A zs) (hA : zs.length = 0 ∨ ∃ g, A = some ⟨g, 0, none⟩) (hn : zs.length ≤ 1000000) (x : Int) :
    Calls Try.prog 53 #[.slice A zs.length c, .int .i64 x] w fun e w' => e = .returned (.bool (zs.contains x)) ∧ w' = w := by
  rcases hA with h0 | ⟨g, rfl⟩
  · rw [h0]
    rw [List.length_eq_zero_iff.1 h0]
    exact Try.slices_Contains_int_empty A c x w
  · have := Try.slices_Contains_int g 0 zs.length c zs x w (Nat.le_refl _) (by omega) (by
      intro j hj
      obtain ⟨ad, ea, hc⟩ := hI j _ (List.getElem?_eq_getElem hj)
      cases ea
      rw [Go.Proofs.YtljfknneijmfoaaW.PrintWords.add_at] at hc
      rw [hc]
      simp [List.getD_eq_getElem?_getD, List.getElem?_eq_getElem hj])
    simpa using this

set_option maxRecDepth 100000 in
theorem alias16 (e : S) (As : Option Addr) (ns cs : Nat) (Ar : Option Addr) (cr : Nat) (x3 x4 x5 : Value) (rows : List (S × List Int)) (a b : S) (w : World) (hR : SetRow w Ar rows) (hn : rows.length ≤ 100000)
    (hsa : ∀ j, (picks ns a (rows.take j)).length ≤ 100000) (hsb : ∀ j, (picks ns b (rows.take j)).length ≤ 100000) (hl : ∀ r ∈ rows, r.2.length ≤ 100000) :
    Calls Try.prog 16 #[.agg (repV e As ns cs Ar rows.length cr x3 x4 x5), .string (U a), .string (U b)] w fun e w' => ∃ t, e = .returned (.bool t) ∧ (t = true ↔ ∃ z, z ∈ picks ns a rows ∧ z ∈ picks ns b rows) ∧ Below w.heap.size w w' := by
  have HR := Lib.hid hR
  have HSA := Lib.hid hsa
  have HSB := Lib.hid hsb
  have HL := Lib.hid hl
  clear hR hsa hsb hl
  unfold repV
  go_enter Try.func16, Try.ntmps16
  go_wp2
  refine wp_scope_pass 0 (fun a' w' => ∃ (u0 u1 u2 u3 u4 u5 u6 u7 u8 u9 u10 u11 u12 u13 u14 u15 u16 u17 u18 u19 u20 u21 u22 u23 u24 : Value), a' = { tmps := #[u0, u1, u2, u3, u4, u5, u6, u7, u8, u9, u10, u11, u12, u13, u14, u15, u16, u17, u18, u19, u20, u21, u22, u23, u24], defers := [] } ∧ (∃ z, z ∈ picks ns a rows ∧ z ∈ picks ns b rows) ∧ Below w.heap.size w w') (fun _ _ => 0) rfl ?_ ?_
  · rintro a' wr ⟨u0, u1, u2, u3, u4, u5, u6, u7, u8, u9, u10, u11, u12, u13, u14, u15, u16, u17, u18, u19, u20, u21, u22, u23, u24, rfl, hz, hB⟩ J' hJ'
    have HJ' := Lib.hid hJ'
    have HZ := Lib.hid hz
    have HB := Lib.hid hB
    clear hJ' hz hB
    go_wp2_with fail
    simp only [Exit.jump]
    go_ret
    exact ⟨true, rfl, ⟨fun _ => HZ.out, fun _ => rfl⟩, HB.out⟩
  · intro J' hJ' PASS
    have HJ' := Lib.hid hJ'
    clear hJ' PASS
    obtain ⟨w1, hw1⟩ : ∃ w1, w1 = w.alloc (.cells #[.string (U e), .slice As ns cs, .slice Ar rows.length cr, x3, x4, x5] 32) := ⟨_, rfl⟩
    go_upto_region 1 with (fail)
    rw [← hw1]
    have hb1 : Below w.heap.size w w1 := by rw [hw1]; exact (Below.refl _ w).alloc (Nat.le_refl _) _
    have hz1 : w1.heap.size = w.heap.size + 1 := by rw [hw1]; exact World.size_alloc _ _
    have hc1 : w1.heap[w.heap.size]? = some (.cells #[.string (U e), .slice As ns cs, .slice Ar rows.length cr, x3, x4, x5] 32) := by rw [hw1]; exact block_new _ _
    have k0 := cell_of_block (j := 0) hc1 rfl
    have k1 := cell_of_block (j := 1) hc1 rfl
    have k2 := cell_of_block (j := 2) hc1 rfl
    have k3 := cell_of_block (j := 3) hc1 rfl
    have k4 := cell_of_block (j := 4) hc1 rfl
    have k5 := cell_of_block (j := 5) hc1 rfl
    have HB1 := Lib.hid hb1
    have HZ1 := Lib.hid hz1
    have HC1 := Lib.hid hc1
    have HR1 := Lib.hid (HR.out.below hb1 (Nat.le_refl _))
    clear hb1 hz1 hc1 hw1
    go_upto_region 2 with (first
      | (go_at_call 52; refine (collect52 e As ns cs Ar cr x3 x4 x5 rows b w1 HR1.out hn HSB.out HL.out).mono ?_; rintro ee w2 ⟨A2, zb, c2, rfl, hzc, hzl, hA2, hI, hA, hM, hB2⟩; have HI := Lib.hid hI; have HA := Lib.hid hA; have HM := Lib.hid hM; have HB2 := Lib.hid hB2; have HA2 := Lib.hid hA2; clear hI hA hM hB2 hA2))
    clear k0 k1 k2 k3 k4 k5
    have hcc := (HB2.out.block w.heap.size (by have := HZ1.out; omega)).trans HC1.out
    have k0 := cell_of_block (j := 0) hcc rfl
    have k1 := cell_of_block (j := 1) hcc rfl
    have k2 := cell_of_block (j := 2) hcc rfl
    have k3 := cell_of_block (j := 3) hcc rfl
    have k4 := cell_of_block (j := 4) hcc rfl
    have k5 := cell_of_block (j := 5) hcc rfl
    clear hcc
    go_wp2_with (first
      | (go_at_call 52; refine (collect52 e As ns cs Ar cr x3 x4 x5 rows a w2 (HR1.out.below HB2.out (Nat.le_refl _)) hn HSA.out HL.out).mono ?_; rintro ee w3 ⟨A3, za, c3, rfl, hzc3, hzl3, hA3, hI, hA, hM, hB3⟩; have HI3 := Lib.hid hI; have HA3 := Lib.hid hA; have HM3 := Lib.hid hM; have HB3 := Lib.hid hB3; clear hI hA hM hB3 hA3))
    clear k0 k1 k2 k3 k4 k5
    have hs1 := HB1.out.size
    have hs2 := HB2.out.size
    have hs3 := HB3.out.size
    have HBW := Lib.hid (HB1.out.trans ((HB2.out.mono hs1).trans (HB3.out.mono (Nat.le_trans hs1 hs2))))
    have HI2 := Lib.hid (HI.out.below HB3.out (Nat.le_refl _))
    clear hs1 hs2 hs3
    go_loopw [17] (fun i wr => ∃ k : Nat, k ≤ za.length ∧ i = .int .i64 k ∧ wr = w3 ∧ ∀ (j : Nat) (z : Int), j < k → za[j]? = some z → z ∉ zb) (fun i _ => za.length - (intOf i).toNat)
    case atStart => exact ⟨0, Nat.zero_le _, rfl, by first | rfl | trivial, fun j z hj => absurd hj (Nat.not_lt_zero _)⟩
    case round =>
      obtain ⟨k, hk, rfl, rfl, hno⟩ := hrel
      have HNO := Lib.hid hno
      clear hno
      by_cases hlt : k < za.length
      · obtain ⟨z, hz⟩ : ∃ z, za[k]? = some z := ⟨_, List.getElem?_eq_getElem hlt⟩
        obtain ⟨az, rfl, hcz⟩ := HI3.out k z hz
        have HZ := Lib.hid hz
        have hkb : k ≤ 1000000 := by omega
        clear hz
        by_cases hin : z ∈ zb
        · have hct : zb.contains z = true := by simpa using hin
          have HIN := Lib.hid hin
          have HCT := Lib.hid hct
          clear hin hct
          go_wp2_with (first
            | (go_at_call 53; refine (contains53 HI2.out HA2.out (by omega) z).mono ?_; rintro ee w4 ⟨rfl, rfl⟩; rw [HCT.out]))
          go_step3
          simp only [Exit.inBlock, Exit.then]
          refine ⟨rfl, HJ'.out _ _ ⟨_, _, _, _, _, _, _, _, _, _, _, _, _, _, _, _, _, _, _, _, _, _, _, _, _, rfl, ⟨z, (HM3.out z).1 (List.mem_of_getElem? HZ.out), (HM.out z).1 HIN.out⟩, HBW.out⟩⟩
        · have hct : zb.contains z = false := by simpa using hin
          have HIN := Lib.hid hin
          have HCT := Lib.hid hct
          clear hin hct
          go_wp2_with (first
            | (go_at_call 53; refine (contains53 HI2.out HA2.out (by omega) z).mono ?_; rintro ee w4 ⟨rfl, rfl⟩; rw [HCT.out]))
          go_roundw
          case measure => simp [intOf]; omega
          case rel =>
            refine ⟨k + 1, hlt, by go_num, by first | rfl | trivial, fun j y hj hy => ?_⟩
            by_cases hjk : j = k
            · subst hjk
              rw [HZ.out] at hy
              cases hy
              exact HIN.out
            · exact HNO.out j y (by omega) hy
      · have hke : k = za.length := by omega
        subst hke
        go_wp2_with fail
        simp only [Exit.jump]
        go_ret
        refine ⟨false, rfl, ⟨(fun h => nomatch h), fun ⟨z, hza, hzb⟩ => ?_⟩, HBW.out⟩
        obtain ⟨j, hj⟩ := List.mem_iff_getElem?.1 ((HM3.out z).2 hza)
        exact absurd ((HM.out z).2 hzb) (HNO.out j z (List.getElem?_eq_some_iff.1 hj).1 hj)
end Go.Proofs.Ytljfknneijmfoaa
