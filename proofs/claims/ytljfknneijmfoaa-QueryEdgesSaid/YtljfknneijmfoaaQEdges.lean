import Derived.Test.YtljfknneijmfoaaESame
namespace Go.Proofs.Ytljfknneijmfoaa
open Go.RowKit Go.Maps Go.WideMaps Go.Lib

/-- Two blocks that lie, of six cells and of three. -/
theorem keep9 {w1 w' : World} {b d : Nat} {c0 c1 c2 c3 c4 c5 e0 e1 e2 : Value} {t s : TypeId} (hb : w1.heap[b]? = some (.cells #[c0, c1, c2, c3, c4, c5] t)) (hd : w1.heap[d]? = some (.cells #[e0, e1, e2] s)) (h : Below w1.heap.size w1 w') :
    Below w1.heap.size w1 w' ∧ w'.cell? ⟨b, 0, none⟩ = some c0 ∧ w'.cell? ⟨b, 1, none⟩ = some c1 ∧ w'.cell? ⟨b, 2, none⟩ = some c2 ∧ w'.cell? ⟨b, 3, none⟩ = some c3 ∧ w'.cell? ⟨b, 4, none⟩ = some c4 ∧ w'.cell? ⟨b, 5, none⟩ = some c5 ∧
      w'.cell? ⟨d, 0, none⟩ = some e0 ∧ w'.cell? ⟨d, 1, none⟩ = some e1 ∧ w'.cell? ⟨d, 2, none⟩ = some e2 := by
  obtain ⟨h0, k0, k1, k2, k3, k4, k5⟩ := keep6 hb h
  have hlt : d < w1.heap.size := (Array.getElem?_eq_some_iff.1 hd).1
  have hc := (h.block d hlt).trans hd
  exact ⟨h0, k0, k1, k2, k3, k4, k5, cell_of_block (j := 0) hc rfl, cell_of_block (j := 1) hc rfl, cell_of_block (j := 2) hc rfl⟩

set_option maxRecDepth 100000 in
set_option maxHeartbeats 4000000 in
theorem queryEdges9 (e : S) (As : Option Addr) (sites : List S) (cs : Nat) (Ar : Option Addr) (rows : List (S × List Int)) (cr : Nat) (Ae : Option Addr) (es : List (S × Int × S)) (ce : Nat) (Ah : Option Addr) (reach : List S) (ch : Nat) (Ai : Option Addr) (inits : List S) (ci : Nat) (w : World)
    (he : e.length ≤ maxLen) (h1 : sites.length ≤ cs ∧ cs ≤ maxLen ∧ StrRow w As sites ∧ ∀ y ∈ sites, y.length ≤ maxLen)
    (h2 : rows.length ≤ cr ∧ cr ≤ maxLen ∧ SetRow w Ar rows ∧ ∀ r ∈ rows, r.1.length ≤ maxLen ∧ r.2.length ≤ maxLen ∧ ∀ z ∈ r.2, -9223372036854775808 ≤ z ∧ z ≤ 9223372036854775807)
    (h3 : es.length ≤ ce ∧ ce ≤ maxLen ∧ EdgeRow w Ae es ∧ ∀ e ∈ es, e.1.length ≤ maxLen ∧ e.2.2.length ≤ maxLen ∧ -9223372036854775808 ≤ e.2.1 ∧ e.2.1 ≤ 9223372036854775807)
    (h4 : reach.length ≤ ch ∧ ch ≤ maxLen ∧ StrRow w Ah reach ∧ ∀ y ∈ reach, y.length ≤ maxLen)
    (h5 : inits.length ≤ ci ∧ ci ≤ maxLen ∧ StrRow w Ai inits ∧ ∀ y ∈ inits, y.length ≤ maxLen) :
    Calls Try.prog 9 #[.agg (repV e As sites.length cs Ar rows.length cr (.slice Ae es.length ce) (.slice Ah reach.length ch) (.slice Ai inits.length ci))] w fun ee w' => ee = .returned (.bool true) ∧ Below w.heap.size w w' := by
  have HR := Lib.hid h2.2.2.1
  have HE := Lib.hid h3.2.2.1
  have HLE := Lib.hid (show es.length ≤ ce from h3.1)
  have hem : es.length ≤ 9223372036854775807 := by have := h3.1; have := h3.2.1; unfold maxLen at *; omega
  have H12 := Lib.hid (fun W (hB : Below w.heap.size w W) => small12 e As sites cs Ar rows cr Ae es ce Ah reach ch Ai inits ci W he
    ⟨h1.1, h1.2.1, h1.2.2.1.below hB (Nat.le_refl _), h1.2.2.2⟩ ⟨h2.1, h2.2.1, h2.2.2.1.below hB (Nat.le_refl _), h2.2.2.2⟩ ⟨h3.1, h3.2.1, h3.2.2.1.below hB (Nat.le_refl _), h3.2.2.2⟩
    ⟨h4.1, h4.2.1, h4.2.2.1.below hB (Nat.le_refl _), h4.2.2.2⟩ ⟨h5.1, h5.2.1, h5.2.2.1.below hB (Nat.le_refl _), h5.2.2.2⟩)
  clear h1 h2 h3 h4 h5 he
  unfold repV at *
  go_enter Try.func9, Try.ntmps9
  go_upto_region 1 with (fail)
  obtain ⟨w1, hw1⟩ : ∃ w1, w1 = w.alloc (.cells #[.string (U e), .slice As sites.length cs, .slice Ar rows.length cr, .slice Ae es.length ce, .slice Ah reach.length ch, .slice Ai inits.length ci] 26) := ⟨_, rfl⟩
  rw [← hw1]
  have hb1 : Below w.heap.size w w1 := by rw [hw1]; exact (Below.refl _ w).alloc (Nat.le_refl _) _
  have hz1 : w1.heap.size = w.heap.size + 1 := by rw [hw1]; exact World.size_alloc _ _
  have hc1 : w1.heap[w.heap.size]? = some (.cells #[.string (U e), .slice As sites.length cs, .slice Ar rows.length cr, .slice Ae es.length ce, .slice Ah reach.length ch, .slice Ai inits.length ci] 26) := by rw [hw1]; exact block_new _ _
  have k0 := cell_of_block (j := 0) hc1 rfl
  have k1 := cell_of_block (j := 1) hc1 rfl
  have k2 := cell_of_block (j := 2) hc1 rfl
  have k3 := cell_of_block (j := 3) hc1 rfl
  have k4 := cell_of_block (j := 4) hc1 rfl
  have k5 := cell_of_block (j := 5) hc1 rfl
  have HB1 := Lib.hid hb1
  have HZ1 := Lib.hid hz1
  have HC1 := Lib.hid hc1
  clear hb1 hz1 hc1 hw1
  go_upto_region 3 with (first
    | (go_at_call 12; refine (H12.out _ HB1.out).mono ?_; rintro ee w2 ⟨t, rfl, hsm, hB2⟩; have HSM := Lib.hid hsm; have HB2 := Lib.hid hB2; have hcc := (hB2.block w.heap.size (by have := HZ1.out; omega)).trans HC1.out; clear k0 k1 k2 k3 k4 k5; have k0 := cell_of_block (j := 0) hcc rfl; have k1 := cell_of_block (j := 1) hcc rfl; have k2 := cell_of_block (j := 2) hcc rfl; have k3 := cell_of_block (j := 3) hcc rfl; have k4 := cell_of_block (j := 4) hcc rfl; have k5 := cell_of_block (j := 5) hcc rfl; have HCC := Lib.hid hcc; clear hsm hB2 hcc)
    | (go_at_call 14; refine (awake14 _).mono ?_; rintro ee w4 ⟨rfl, hB4⟩; have HB4 := Lib.hid hB4; clear hB4))
  · go_ret
    have hs1 := HB1.out.size
    have hs2 := HB2.out.size
    exact ⟨rfl, HB1.out.trans ((HB2.out.mono hs1).trans (HB4.out.mono (by omega)))⟩
  · have hsm := HSM.out (by assumption)
    have hsz := hsm.rows
    have hez := sizesE_length hsm.edges
    have hn2 := (sizesR_length hsz).1
    have hne : es.length ≤ 2000 := hez.1
    have hbw := HB1.out.trans (HB2.out.mono HB1.out.size)
    have hlt0 : w.heap.size < w2.heap.size := by have := HB2.out.size; have := HZ1.out; omega
    have HBW := Lib.hid hbw
    clear HB2 hsz hbw H12 HC1 HZ1 HB1 HSM hsm hez
    go_upto_region 4 with (go_at_call 15; refine (made15 e As sites.length cs Ar cr Ae es.length ce Ah reach.length ch Ai inits.length ci rows w2 (HR.out.below HBW.out (Nat.le_refl _)) (by omega)).mono ?_; unfold repV; rintro ee w5 ⟨A5, c5, rfl, hR5, hB5⟩; have HB5 := Lib.hid hB5; clear hR5 hB5)
    obtain ⟨w6, hw6⟩ : ∃ w6, w6 = w5.alloc (.cells #[.string (U e), .slice As sites.length cs, .slice A5 rows.length c5, .slice Ae es.length ce, .slice Ah reach.length ch, .slice Ai inits.length ci] 32) := ⟨_, rfl⟩
    rw [← hw6]
    have hb6 : Below w5.heap.size w5 w6 := by rw [hw6]; exact (Below.refl _ w5).alloc (Nat.le_refl _) _
    have hc6 : w6.heap[w5.heap.size]? = some (.cells #[.string (U e), .slice As sites.length cs, .slice A5 rows.length c5, .slice Ae es.length ce, .slice Ah reach.length ch, .slice Ai inits.length ci] 32) := by rw [hw6]; exact block_new _ _
    have hbw6 := (HBW.out.trans (HB5.out.mono HBW.out.size)).trans (hb6.mono (by have := HBW.out.size; have := HB5.out.size; omega))
    have hcb6 := (hb6.block w.heap.size (by have := HB5.out.size; omega)).trans ((HB5.out.block w.heap.size hlt0).trans HCC.out)
    have HE6 := Lib.hid (HE.out.below hbw6 (Nat.le_refl _))
    have HC6 := Lib.hid hc6
    have HCB6 := Lib.hid hcb6
    have HBW6 := Lib.hid hbw6
    have HL5 : Hid (w5.heap.size < w6.heap.size) := Lib.hid (Array.getElem?_eq_some_iff.1 hc6).1
    have HL0 : Hid (w.heap.size < w6.heap.size) := Lib.hid (Array.getElem?_eq_some_iff.1 hcb6).1
    clear hw6 hb6 hc6 hbw6 hcb6 k0 k1 k2 k3 k4 k5 HB5 HBW HR HE HCC
    go_wp2
    go_loopw [4] (fun i wr => ∃ k : Nat, k ≤ es.length ∧ i = .int .i64 k ∧ Below w6.heap.size w6 wr) (fun i _ => es.length - (intOf i).toNat)
    case atStart => exact ⟨0, Nat.zero_le _, rfl, Below.refl _ _⟩
    case round =>
      obtain ⟨k, hk, rfl, hB⟩ := hrel
      have HB := Lib.hid hB
      have hcr := (hB.block w.heap.size HL0.out).trans HCB6.out
      have r3 := cell_of_block (j := 3) hcr rfl
      have hcx := (hB.block w5.heap.size HL5.out).trans HC6.out
      have HCX := Lib.hid hcx
      have HCR := Lib.hid hcr
      clear hB hcr hcx
      by_cases hlt : k < es.length
      · obtain ⟨⟨ef, ep, et⟩, hr⟩ : ∃ y, es[k]? = some y := ⟨_, List.getElem?_eq_getElem hlt⟩
        obtain ⟨ad, rfl, h0, h1, h2⟩ := (HE6.out.below HB.out (Nat.le_refl _)) k _ hr
        dsimp only at h0 h1 h2
        have hkb : k ≤ 1000000 := by omega
        have HYM := Lib.hid (List.mem_of_getElem? hr)
        clear hr
        go_upto_region 8 with (fail)
        obtain ⟨wo, hwo⟩ : ∃ wo : World, wo = wr.alloc (.cells #[.string (U ef), .int .i64 ep, .string (U et)] 50) := ⟨_, rfl⟩
        rw [← hwo]
        have hBo : Below wr.heap.size wr wo := by rw [hwo]; exact (Below.refl _ wr).alloc (Nat.le_refl _) _
        have hbs := block_new wr (.cells #[.string (U ef), .int .i64 ep, .string (U et)] 50)
        rw [← hwo] at hbs
        have hcx := (hBo.block w5.heap.size (by have := HB.out.size; have := HL5.out; omega)).trans HCX.out
        have HK := Lib.hid (fun w' (h : Below wo.heap.size wo w') => keep9 hcx hbs h)
        have hEo := (HE6.out.below HB.out (Nat.le_refl _)).below hBo (Nat.le_refl _)
        obtain ⟨LT, hLT⟩ : ∃ l, l = es.filter (isTo et) := ⟨_, rfl⟩
        obtain ⟨LF, hLF⟩ : ∃ l, l = es.filter (isFrom ef) := ⟨_, rfl⟩
        obtain ⟨LL, hLL⟩ : ∃ l, l = es.filter (isLone es) := ⟨_, rfl⟩
        obtain ⟨LA, hLA⟩ : ∃ l, l = (es.filter (isAt ef ep)).map (·.2.2) := ⟨_, rfl⟩
        have lT : LT.length ≤ 100000 := by rw [hLT]; exact Nat.le_trans (List.length_filter_le _ _) (by omega)
        have lF : LF.length ≤ 100000 := by rw [hLF]; exact Nat.le_trans (List.length_filter_le _ _) (by omega)
        have lL : LL.length ≤ 100000 := by rw [hLL]; exact Nat.le_trans (List.length_filter_le _ _) (by omega)
        have lA : LA.length ≤ 100000 := by rw [hLA, List.length_map]; exact Nat.le_trans (List.length_filter_le _ _) (by omega)
        have HMT : Hid (decide ((ef, ep, et) ∈ LT) = true) := Lib.hid (by rw [hLT, decide_eq_true_eq, List.mem_filter]; exact ⟨HYM.out, by simp [isTo]⟩)
        have HMF : Hid (decide ((ef, ep, et) ∈ LF) = true) := Lib.hid (by rw [hLF, decide_eq_true_eq, List.mem_filter]; exact ⟨HYM.out, by simp [isFrom]⟩)
        have HMA : Hid (LA.contains et = true) := Lib.hid (by
          rw [hLA, List.contains_iff_mem, List.mem_map]
          exact ⟨(ef, ep, et), List.mem_filter.2 ⟨HYM.out, by simp [isAt]⟩, rfl⟩)
        have HML : Hid (decide ((ef, ep, et) ∈ LL) = decide (LA.length = 1)) := Lib.hid (by
          rw [hLL, hLA, List.length_map, Bool.eq_iff_iff, decide_eq_true_eq, List.mem_filter]
          exact ⟨fun h => h.2, fun h => ⟨HYM.out, h⟩⟩)
        have H34 : Hid (∀ W, Below wo.heap.size wo W → Calls Try.prog 34 #[.agg #[.string (U e), .slice As sites.length cs, .slice A5 rows.length c5, .slice (some ad) es.length ce, .slice Ah reach.length ch, .slice Ai inits.length ci], .string (U et)] W (EdgeAns W LT)) := Lib.hid (fun W hB => by
          rw [hLT]; exact callers34 e As sites.length cs A5 rows.length c5 (some ad) ce (.slice Ah reach.length ch) (.slice Ai inits.length ci) es W (hEo.below hB (Nat.le_refl _)) (by omega) et)
        have H36 : Hid (∀ W, Below wo.heap.size wo W → Calls Try.prog 36 #[.agg #[.string (U e), .slice As sites.length cs, .slice A5 rows.length c5, .slice (some ad) es.length ce, .slice Ah reach.length ch, .slice Ai inits.length ci], .string (U ef)] W (EdgeAns W LF)) := Lib.hid (fun W hB => by
          rw [hLF]; exact callees36 e As sites.length cs A5 rows.length c5 (some ad) ce (.slice Ah reach.length ch) (.slice Ai inits.length ci) es W (hEo.below hB (Nat.le_refl _)) (by omega) ef)
        have H39 : Hid (∀ W, Below wo.heap.size wo W → Calls Try.prog 39 #[.agg #[.string (U e), .slice As sites.length cs, .slice A5 rows.length c5, .slice (some ad) es.length ce, .slice Ah reach.length ch, .slice Ai inits.length ci]] W (EdgeAns W LL)) := Lib.hid (fun W hB => by
          rw [hLL]; exact lonely39 e As sites.length cs A5 rows.length c5 (some ad) ce (.slice Ah reach.length ch) (.slice Ai inits.length ci) es W (hEo.below hB (Nat.le_refl _)) (by omega))
        have H37 : Hid (∀ W, Below wo.heap.size wo W → Calls Try.prog 37 #[.agg #[.string (U e), .slice As sites.length cs, .slice A5 rows.length c5, .slice (some ad) es.length ce, .slice Ah reach.length ch, .slice Ai inits.length ci], .string (U ef), .int .i64 ep] W fun ee w' => ∃ A c, ee = .returned (.slice A LA.length c) ∧ LA.length ≤ c ∧ StrRow w' A LA ∧ Below W.heap.size W w') := Lib.hid (fun W hB => by
          rw [hLA]; exact at37 e As sites.length cs A5 rows.length c5 (some ad) ce (.slice Ah reach.length ch) (.slice Ai inits.length ci) es W (hEo.below hB (Nat.le_refl _)) (by omega) ef ep)
        have hcur := (Below.refl wo.heap.size wo).drew
        have HBO := Lib.hid (HB.out.trans (hBo.mono HB.out.size))
        clear hwo hBo hbs hcx hEo h0 h1 h2 r3 hLT hLF hLL hLA
        go_region_held3 (fun w' => Below wo.heap.size wo w' ∧ w'.cell? ⟨w5.heap.size, 0, none⟩ = some (.string (U e)) ∧ w'.cell? ⟨w5.heap.size, 1, none⟩ = some (.slice As sites.length cs) ∧ w'.cell? ⟨w5.heap.size, 2, none⟩ = some (.slice A5 rows.length c5) ∧
            w'.cell? ⟨w5.heap.size, 3, none⟩ = some (.slice (some ad) es.length ce) ∧ w'.cell? ⟨w5.heap.size, 4, none⟩ = some (.slice Ah reach.length ch) ∧ w'.cell? ⟨w5.heap.size, 5, none⟩ = some (.slice Ai inits.length ci) ∧
            w'.cell? ⟨wr.heap.size, 0, none⟩ = some (.string (U ef)) ∧ w'.cell? ⟨wr.heap.size, 1, none⟩ = some (.int .i64 ep) ∧ w'.cell? ⟨wr.heap.size, 2, none⟩ = some (.string (U et)))
          (exact HK.out _ hcur)
          (first
            | (go_at_call 34; (with_reducible refine ((H34.out _ hcur).mono ?_)); rintro ee w9 ⟨A9, c9, rfl, hle9, hrow9, hB9⟩; have HLE9 := Lib.hid hle9; have HROW9 := Lib.hid hrow9; have HM9 := HMT; replace hcur := hcur.trans (hB9.mono hcur.size); clear hle9 hrow9 hB9)
            | (go_at_call 36; (with_reducible refine ((H36.out _ hcur).mono ?_)); rintro ee w9 ⟨A9, c9, rfl, hle9, hrow9, hB9⟩; have HLE9 := Lib.hid hle9; have HROW9 := Lib.hid hrow9; have HM9 := HMF; replace hcur := hcur.trans (hB9.mono hcur.size); clear hle9 hrow9 hB9)
            | (go_at_call 41; (with_reducible refine ((has41 HROW9.out HLE9.out (by omega) ef et ep).mono ?_)); rw [HM9.out]; rintro ee w10 ⟨rfl, hB10⟩; replace hcur := hcur.trans (hB10.mono hcur.size); clear hB10)
            | (go_at_call 37; (with_reducible refine ((H37.out _ hcur).mono ?_)); rintro ee w11 ⟨A11, c11, rfl, hle11, hrow11, hB11⟩; have HLE11 := Lib.hid hle11; have HROW11 := Lib.hid hrow11; replace hcur := hcur.trans (hB11.mono hcur.size); clear hle11 hrow11 hB11)
            | (go_at_call 19; (with_reducible refine ((has19 HROW11.out HLE11.out (by omega) et).mono ?_)); rw [HMA.out]; rintro ee w12 ⟨rfl, hB12⟩; replace hcur := hcur.trans (hB12.mono hcur.size); clear hB12))
        go_split_ands
        go_upto_region 10 with (fail)
        have hcur2 := hcur.drew
        clear hcur
        by_cases ha1 : LA.length = 1
        · obtain ⟨x, rfl⟩ := List.length_eq_one_iff.1 ha1
          have HML1 : Hid (decide ((ef, ep, et) ∈ LL) = true) := Lib.hid (by rw [HML.out]; rfl)
          go_region_held3 (fun w' => Below wo.heap.size wo w' ∧ w'.cell? ⟨w5.heap.size, 0, none⟩ = some (.string (U e)) ∧ w'.cell? ⟨w5.heap.size, 1, none⟩ = some (.slice As sites.length cs) ∧ w'.cell? ⟨w5.heap.size, 2, none⟩ = some (.slice A5 rows.length c5) ∧
              w'.cell? ⟨w5.heap.size, 3, none⟩ = some (.slice (some ad) es.length ce) ∧ w'.cell? ⟨w5.heap.size, 4, none⟩ = some (.slice Ah reach.length ch) ∧ w'.cell? ⟨w5.heap.size, 5, none⟩ = some (.slice Ai inits.length ci) ∧
              w'.cell? ⟨wr.heap.size, 0, none⟩ = some (.string (U ef)) ∧ w'.cell? ⟨wr.heap.size, 1, none⟩ = some (.int .i64 ep) ∧ w'.cell? ⟨wr.heap.size, 2, none⟩ = some (.string (U et)))
            (exact HK.out _ hcur2)
            (first
              | (go_at_call 39; (with_reducible refine ((H39.out _ hcur2).mono ?_)); rintro ee w13 ⟨A13, c13, rfl, hle13, hrow13, hB13⟩; have HLE13 := Lib.hid hle13; have HROW13 := Lib.hid hrow13; replace hcur2 := hcur2.trans (hB13.mono hcur2.size); clear hle13 hrow13 hB13)
              | (go_at_call 41; (with_reducible refine ((has41 HROW13.out HLE13.out (by omega) ef et ep).mono ?_)); rw [HML1.out]; rintro ee w14 ⟨rfl, hB14⟩; replace hcur2 := hcur2.trans (hB14.mono hcur2.size); clear hB14)
              | (go_at_call 37; (with_reducible refine ((H37.out _ hcur2).mono ?_)); rintro ee w15 ⟨A15, c15, rfl, _, _, hB15⟩; replace hcur2 := hcur2.trans (hB15.mono hcur2.size); clear hB15))
          all_goals
            go_wp2
            go_roundw
            case measure => simp [intOf]; omega
            case rel => exact ⟨k + 1, hlt, by go_num, HBO.out.trans (hcur2.mono HBO.out.size)⟩
        · have HML1 : Hid (decide ((ef, ep, et) ∈ LL) = false) := Lib.hid (by rw [HML.out]; simpa using ha1)
          have d0 : ((LA.length : Int) == 1) = false := by simp; omega
          have d1 : decide ((LA.length : Int) = 1) = false := by simp; omega
          have d2 : (LA.length == 1) = false := by simpa using ha1
          have d3 : decide (LA.length = 1) = false := by simpa using ha1
          go_region_held3 (fun w' => Below wo.heap.size wo w' ∧ w'.cell? ⟨w5.heap.size, 0, none⟩ = some (.string (U e)) ∧ w'.cell? ⟨w5.heap.size, 1, none⟩ = some (.slice As sites.length cs) ∧ w'.cell? ⟨w5.heap.size, 2, none⟩ = some (.slice A5 rows.length c5) ∧
              w'.cell? ⟨w5.heap.size, 3, none⟩ = some (.slice (some ad) es.length ce) ∧ w'.cell? ⟨w5.heap.size, 4, none⟩ = some (.slice Ah reach.length ch) ∧ w'.cell? ⟨w5.heap.size, 5, none⟩ = some (.slice Ai inits.length ci) ∧
              w'.cell? ⟨wr.heap.size, 0, none⟩ = some (.string (U ef)) ∧ w'.cell? ⟨wr.heap.size, 1, none⟩ = some (.int .i64 ep) ∧ w'.cell? ⟨wr.heap.size, 2, none⟩ = some (.string (U et)))
            (exact HK.out _ hcur2)
            (first
              | (go_at_call 39; (with_reducible refine ((H39.out _ hcur2).mono ?_)); rintro ee w13 ⟨A13, c13, rfl, hle13, hrow13, hB13⟩; have HLE13 := Lib.hid hle13; have HROW13 := Lib.hid hrow13; replace hcur2 := hcur2.trans (hB13.mono hcur2.size); clear hle13 hrow13 hB13)
              | (go_at_call 41; (with_reducible refine ((has41 HROW13.out HLE13.out (by omega) ef et ep).mono ?_)); rw [HML1.out]; rintro ee w14 ⟨rfl, hB14⟩; replace hcur2 := hcur2.trans (hB14.mono hcur2.size); clear hB14)
              | (go_at_call 37; (with_reducible refine ((H37.out _ hcur2).mono ?_)); rintro ee w15 ⟨A15, c15, rfl, _, _, hB15⟩; replace hcur2 := hcur2.trans (hB15.mono hcur2.size); clear hB15))
          all_goals
            go_wp2
            go_roundw
            case measure => simp [intOf]; omega
            case rel => exact ⟨k + 1, hlt, by go_num, HBO.out.trans (hcur2.mono HBO.out.size)⟩
      · have hke : k = es.length := by omega
        subst hke
        have x3 := cell_of_block (j := 3) HCX.out rfl
        have HES := Lib.hid (HE6.out.below HB.out (Nat.le_refl _))
        go_wp2_with (first
          | (go_at_call 33; refine (same33 HES.out HLE.out HES.out HLE.out (by omega)).mono ?_; rintro ee w9 ⟨rfl, hB9⟩; have HB9 := Lib.hid hB9; clear hB9)
          | (go_at_call 14; refine (awake14 _).mono ?_; rintro ee w4 ⟨rfl, hB4⟩; have HB4 := Lib.hid hB4; clear hB4))
        go_ret
        have hs6 := HBW6.out.size
        have hs := HB.out.size
        have hs9 := HB9.out.size
        exact ⟨rfl, HBW6.out.trans ((HB.out.trans ((HB9.out.trans (HB4.out.mono hs9)).mono hs)).mono hs6)⟩
  · go_ret
    have hs1 := HB1.out.size
    have hs2 := HB2.out.size
    exact ⟨rfl, HB1.out.trans ((HB2.out.mono hs1).trans (HB4.out.mono (by omega)))⟩
end Go.Proofs.Ytljfknneijmfoaa
