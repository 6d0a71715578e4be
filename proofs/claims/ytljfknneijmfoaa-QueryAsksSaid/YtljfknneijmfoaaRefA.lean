import Derived.Test.YtljfknneijmfoaaRefs
namespace Go.Proofs.Ytljfknneijmfoaa
open Go.RowKit Go.Maps Go.WideMaps Go.Lib

theorem drawn_below (w : World) (n : Nat) : Below w.heap.size w (w.drewN n) := (show Go.Proofs.YtljfknneijmfoaaW.PrintWords.Drawn0 w (w.drewN n) from ⟨⟨n, rfl⟩⟩).below

set_option maxRecDepth 100000 in
set_option maxHeartbeats 2000000 in
/-- The reference's Alias. -/
theorem refAlias24 (e : S) (As : Option Addr) (cs : Nat) (Ar : Option Addr) (cr : Nat) (x3 x4 x5 : Value) (rows : List (S × List Int)) (sites : List S) (a b : S) (w : World)
    (h2 : rows.length ≤ cr ∧ SetRow w Ar rows) (hsz : sizesR rows ≤ 2000) :
    Calls Try.prog 24 #[.agg (repV e As sites.length cs Ar rows.length cr x3 x4 x5), .string (U a), .string (U b)] w fun ee w' => ee = .returned (.bool (aliasB sites.length rows a b)) ∧ Below w.heap.size w w' := by
  have HGW := Lib.hid (fun W (hB : Below w.heap.size w W) v => get56W Ar cr rows W ⟨h2.1, h2.2.below hB (Nat.le_refl _)⟩ hsz v W (Below.refl _ W))
  clear h2 hsz
  unfold repV at *
  go_enter Try.func24, Try.ntmps24
  go_upto_region 1 with (fail)
  obtain ⟨w1, hw1⟩ : ∃ w1, w1 = w.alloc (.cells #[.string (U e), .slice As sites.length cs, .slice Ar rows.length cr, x3, x4, x5] 26) := ⟨_, rfl⟩
  rw [← hw1]
  have hb1 : Below w.heap.size w w1 := by rw [hw1]; exact (Below.refl _ w).alloc (Nat.le_refl _) _
  have hz1 : w1.heap.size = w.heap.size + 1 := by rw [hw1]; exact World.size_alloc _ _
  have hc1 : w1.heap[w.heap.size]? = some (.cells #[.string (U e), .slice As sites.length cs, .slice Ar rows.length cr, x3, x4, x5] 26) := by rw [hw1]; exact block_new _ _
  have k2 := cell_of_block (j := 2) hc1 rfl
  have HB1 := Lib.hid hb1
  have HZ1 := Lib.hid hz1
  have HC1 := Lib.hid hc1
  clear hb1 hz1 hc1 hw1
  go_upto_region 2 with (go_at_call 56; refine (HGW.out _ HB1.out a).mono ?_; rintro ee w2 ⟨A2, c2, ra, rfl, hle2, hl2, hI2, _, hm2, hB2⟩; have HI2 := Lib.hid hI2; have HM2 := Lib.hid hm2; have HB2 := Lib.hid hB2; have HLE2 := Lib.hid hle2; clear hI2 hm2 hB2 hle2)
  clear k2
  have k2 := cell_of_block (j := 2) ((HB2.out.block w.heap.size (by have := HZ1.out; omega)).trans HC1.out) rfl
  go_upto_region 3 with (go_at_call 56; refine (HGW.out _ (HB1.out.trans (HB2.out.mono HB1.out.size)) b).mono ?_; rintro ee w3 ⟨A3, c3, rb, rfl, hle3, hl3, hI3, _, hm3, hB3⟩; have HI3 := Lib.hid hI3; have HM3 := Lib.hid hm3; have HB3 := Lib.hid hB3; have HLE3 := Lib.hid hle3; clear hI3 hm3 hB3 hle3)
  clear k2
  have HC3 := Lib.hid ((HB3.out.block w.heap.size (by have := HZ1.out; have := HB2.out.size; omega)).trans ((HB2.out.block w.heap.size (by have := HZ1.out; omega)).trans HC1.out))
  have HBW := Lib.hid (HB1.out.trans ((HB2.out.mono HB1.out.size).trans (HB3.out.mono (Nat.le_trans HB1.out.size HB2.out.size))))
  have HIA := Lib.hid (HI2.out.below HB3.out (Nat.le_refl _))
  have HNO : Hid ((∀ i z, ra[i]? = some z → z ∈ rb → isSite sites.length z = false) → aliasB sites.length rows a b = false) := Lib.hid (fun h => by
    rw [Bool.eq_false_iff]
    intro hal
    obtain ⟨z, hza, hzb⟩ := aliasB_iff.1 hal
    obtain ⟨ha1, hs⟩ := mem_allOf.2 hza
    obtain ⟨i, hi⟩ := List.mem_iff_getElem?.1 ((HM2.out z).2 ha1)
    have := h i z hi ((HM3.out z).2 (mem_allOf.2 hzb).1)
    rw [hs] at this
    cases this)
  have HYES : Hid (∀ z, z ∈ ra → z ∈ rb → isSite sites.length z = true → aliasB sites.length rows a b = true) := Lib.hid (fun z h1 h2 h3 => aliasB_iff.2 ⟨z, mem_allOf.1 ⟨(HM2.out z).1 h1, h3⟩, mem_allOf.1 ⟨(HM3.out z).1 h2, h3⟩⟩)
  have hlt3 : Hid (w.heap.size < w3.heap.size) := Lib.hid (Array.getElem?_eq_some_iff.1 HC3.out).1
  clear HM2 HM3 HB2 HB3 HI2 HGW
  go_wp2
  go_loopw [9] (fun i wr => ∃ k : Nat, k ≤ ra.length ∧ i = .int .i64 k ∧ Below w3.heap.size w3 wr ∧ ∀ j z, j < k → ra[j]? = some z → z ∈ rb → isSite sites.length z = false) (fun i _ => ra.length - (intOf i).toNat)
  case atStart => exact ⟨0, Nat.zero_le _, rfl, Below.refl _ _, fun j z hj => absurd hj (Nat.not_lt_zero _)⟩
  case round =>
    obtain ⟨k, hk, rfl, hBr, hno⟩ := hrel
    have HBR := Lib.hid hBr
    have HN := Lib.hid hno
    clear hBr hno
    by_cases hlt : k < ra.length
    · obtain ⟨z, hz⟩ : ∃ z, ra[k]? = some z := ⟨_, List.getElem?_eq_getElem hlt⟩
      have HZ := Lib.hid hz
      have hkb : k ≤ 1000000 := by omega
      clear hz
      go_wp2
      obtain ⟨wo, rfl⟩ : ∃ wo : World, wo = wr := ⟨_, rfl⟩
      go_loopw [10] (fun i wr => ∃ q : Nat, q ≤ rb.length ∧ i = .int .i64 q ∧ Below w3.heap.size w3 wr ∧ (isSite sites.length z = true → ∀ j y, j < q → rb[j]? = some y → z ≠ y)) (fun i _ => rb.length - (intOf i).toNat)
      case atStart => exact ⟨0, Nat.zero_le _, rfl, HBR.out, fun _ j y hj => absurd hj (Nat.not_lt_zero _)⟩
      case round =>
        obtain ⟨q, hq, rfl, hBq, hnq⟩ := hrel
        have HBQ := Lib.hid hBq
        have HNQ := Lib.hid hnq
        obtain ⟨a2, rfl, c2z⟩ := (HIA.out.below hBq (Nat.le_refl _)) k z HZ.out
        clear hBq hnq
        by_cases hqt : q < rb.length
        · obtain ⟨y, hy⟩ : ∃ y, rb[q]? = some y := ⟨_, List.getElem?_eq_getElem hqt⟩
          obtain ⟨a3, rfl, c3y⟩ := (HI3.out.below HBQ.out (Nat.le_refl _)) q y hy
          have k1 := cell_of_block (j := 1) ((HBQ.out.block w.heap.size hlt3.out).trans HC3.out) rfl
          have HY := Lib.hid hy
          have hqb : q ≤ 1000000 := by omega
          have i1 : (0 : Int) ≤ (k : Int) := by omega
          have i2 : (k : Int) < (ra.length : Int) := by omega
          have i3 : (0 : Int) ≤ (q : Int) := by omega
          have i4 : (q : Int) < (rb.length : Int) := by omega
          clear hy
          by_cases hzy : z = y
          · subst hzy
            by_cases h0 : 0 ≤ z
            · by_cases h1 : z < (sites.length : Int)
              · have hs : isSite sites.length z = true := by simp [isSite, h0, h1]
                have HAL := Lib.hid (HYES.out z (List.mem_of_getElem? HZ.out) (List.mem_of_getElem? HY.out) hs)
                have d0 : decide (0 ≤ z) = true := by simpa using h0
                have d1 : decide (z < (sites.length : Int)) = true := by simpa using h1
                clear hs
                go_upto_region 9 with (fail)
                go_quiet (fail)
                go_wp2
                go_ret
                rw [HAL.out]
                exact ⟨rfl, HBW.out.trans ((HBQ.out.trans ((drawn_below _ _).mono HBQ.out.size)).mono HBW.out.size)⟩
              · have hs : isSite sites.length z = false := by simp [isSite, h1]
                have HS := Lib.hid hs
                have d0 : decide (0 ≤ z) = true := by simpa using h0
                have d1 : decide (z < (sites.length : Int)) = false := by simpa using h1
                clear hs
                go_upto_region 9 with (fail)
                go_quiet (fail)
                go_wp2
                go_roundw
                case measure => simp [intOf]; omega
                case rel => exact ⟨q + 1, hqt, by go_num, HBQ.out.trans ((drawn_below _ _).mono HBQ.out.size), fun hs j y hj hy => by rw [HS.out] at hs; cases hs⟩
            · have hs : isSite sites.length z = false := by simp [isSite, h0]
              have HS := Lib.hid hs
              have d0 : decide (0 ≤ z) = false := by simpa using h0
              clear hs
              go_upto_region 9 with (fail)
              go_quiet (fail)
              go_wp2
              go_roundw
              case measure => simp [intOf]; omega
              case rel => exact ⟨q + 1, hqt, by go_num, HBQ.out.trans ((drawn_below _ _).mono HBQ.out.size), fun hs j y hj hy => by rw [HS.out] at hs; cases hs⟩
          · have d0 : (z == y) = false := by simpa using hzy
            have d1 : decide (z = y) = false := by simpa using hzy
            go_upto_region 9 with (fail)
            go_quiet (fail)
            go_wp2
            go_roundw
            case measure => simp [intOf]; omega
            case rel => exact ⟨q + 1, hqt, by go_num, HBQ.out.trans ((drawn_below _ _).mono HBQ.out.size), fun hs j y hj hy => by
              by_cases hjq : j = q
              · subst hjq; rw [HY.out] at hy; cases hy; exact hzy
              · exact HNQ.out hs j y (by omega) hy⟩
        · have hqe : q = rb.length := by omega
          subst hqe
          go_wp2_with fail
          go_roundw
          case measure => simp [intOf]; omega
          case rel => exact ⟨k + 1, hlt, by go_num, HBQ.out, fun j x hj hx hin => by
            by_cases hjk : j = k
            · subst hjk
              rw [HZ.out] at hx
              cases hx
              rw [Bool.eq_false_iff]
              intro hs
              obtain ⟨i, hi⟩ := List.mem_iff_getElem?.1 hin
              exact HNQ.out hs i _ (List.getElem?_eq_some_iff.1 hi).1 hi rfl
            · exact HN.out j x (by omega) hx hin⟩
    · have hke : k = ra.length := by omega
      subst hke
      go_wp2_with fail
      go_ret
      refine ⟨?_, HBW.out.trans (HBR.out.mono HBW.out.size)⟩
      rw [HNO.out (fun i z hi hz => HN.out i z (List.getElem?_eq_some_iff.1 hi).1 hi hz)]
      rfl
end Go.Proofs.Ytljfknneijmfoaa
