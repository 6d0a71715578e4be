import Derived.Test.YtljfknneijmfoaaQs
namespace Go.Proofs.Ytljfknneijmfoaa
open Go.RowKit Go.Maps Go.WideMaps Go.Lib
open Go.Proofs.YtljfknneijmfoaaW.PrintWords (add_at)

theorem intRow_new (w : World) (n : Nat) (o : Obj) (c : Array Value) (zs : List Int) (t : TypeId) (fr : Nat × Nat) (ho : o = .cells c t fr) (hc : ∀ (k : Nat) (z : Int), zs[k]? = some z → c[k]? = some (.int .i64 z)) (hn : n = w.heap.size) : IntRow (w.alloc o) (some ⟨n, 0, none⟩) zs := by
  subst ho hn
  intro k z hz
  refine ⟨_, rfl, ?_⟩
  rw [add_at, Nat.zero_add]
  exact cell_of_block (block_new _ _) (hc k z hz)

set_option maxRecDepth 100000 in
set_option maxHeartbeats 2000000 in
theorem queryAlias3 (e : S) (As : Option Addr) (sites : List S) (cs : Nat) (Ar : Option Addr) (rows : List (S × List Int)) (cr : Nat) (Ae : Option Addr) (es : List (S × Int × S)) (ce : Nat) (Ah : Option Addr) (reach : List S) (ch : Nat) (Ai : Option Addr) (inits : List S) (ci : Nat) (a b site : S) (w : World)
    (he : e.length ≤ maxLen) (h1 : sites.length ≤ cs ∧ cs ≤ maxLen ∧ StrRow w As sites ∧ ∀ y ∈ sites, y.length ≤ maxLen)
    (h2 : rows.length ≤ cr ∧ cr ≤ maxLen ∧ SetRow w Ar rows ∧ ∀ r ∈ rows, r.1.length ≤ maxLen ∧ r.2.length ≤ maxLen ∧ ∀ z ∈ r.2, -9223372036854775808 ≤ z ∧ z ≤ 9223372036854775807)
    (h3 : es.length ≤ ce ∧ ce ≤ maxLen ∧ EdgeRow w Ae es ∧ ∀ e ∈ es, e.1.length ≤ maxLen ∧ e.2.2.length ≤ maxLen ∧ -9223372036854775808 ≤ e.2.1 ∧ e.2.1 ≤ 9223372036854775807)
    (h4 : reach.length ≤ ch ∧ ch ≤ maxLen ∧ StrRow w Ah reach ∧ ∀ y ∈ reach, y.length ≤ maxLen)
    (h5 : inits.length ≤ ci ∧ ci ≤ maxLen ∧ StrRow w Ai inits ∧ ∀ y ∈ inits, y.length ≤ maxLen)
    (ha : a.length ≤ 9223372036854775807) (hb : b.length ≤ 9223372036854775807) (hs : site.length ≤ 9223372036854775807) :
    Calls Try.prog 3 #[.agg (repV e As sites.length cs Ar rows.length cr (.slice Ae es.length ce) (.slice Ah reach.length ch) (.slice Ai inits.length ci)), .string (U a), .string (U b), .string (U site)] w fun ee w' => ee = .returned (.bool true) ∧ Below w.heap.size w w' := by
  have HS := Lib.hid h1.2.2.1
  have HR := Lib.hid h2.2.2.1
  have H12 := Lib.hid (fun W (hB : Below w.heap.size w W) => small12 e As sites cs Ar rows cr Ae es ce Ah reach ch Ai inits ci W he
    ⟨h1.1, h1.2.1, h1.2.2.1.below hB (Nat.le_refl _), h1.2.2.2⟩ ⟨h2.1, h2.2.1, h2.2.2.1.below hB (Nat.le_refl _), h2.2.2.2⟩ ⟨h3.1, h3.2.1, h3.2.2.1.below hB (Nat.le_refl _), h3.2.2.2⟩
    ⟨h4.1, h4.2.1, h4.2.2.1.below hB (Nat.le_refl _), h4.2.2.2⟩ ⟨h5.1, h5.2.1, h5.2.2.1.below hB (Nat.le_refl _), h5.2.2.2⟩)
  clear h1 h2 h3 h4 h5 he
  have sza : ((U a).size : Int) = a.length := by rw [size_U]
  have szb : ((U b).size : Int) = b.length := by rw [size_U]
  have szs : ((U site).size : Int) = site.length := by rw [size_U]
  unfold repV at *
  go_enter Try.func3, Try.ntmps3
  go_upto_region 1 with (fail)
  obtain ⟨w1, hw1⟩ : ∃ w1, w1 = w.alloc (.cells #[.string (U e), .slice As sites.length cs, .slice Ar rows.length cr, .slice Ae es.length ce, .slice Ah reach.length ch, .slice Ai inits.length ci] 26) := ⟨_, rfl⟩
  rw [← hw1]
  have hb1 : Below w.heap.size w w1 := by rw [hw1]; exact (Below.refl _ w).alloc (Nat.le_refl _) _
  have hz1 : w1.heap.size = w.heap.size + 1 := by rw [hw1]; exact World.size_alloc _ _
  have hc1 : w1.heap[w.heap.size]? = some (.cells #[.string (U e), .slice As sites.length cs, .slice Ar rows.length cr, .slice Ae es.length ce, .slice Ah reach.length ch, .slice Ai inits.length ci] 26) := by rw [hw1]; exact block_new _ _
  have k0 := cell_of_block (j := 0) hc1 rfl
  have k1 := cell_of_block (j := 1) hc1 rfl
  have k2 := cell_of_block (j := 2) hc1 rfl
  have k3 := cell_of_block (j := 3) hc1 rfl
  have k4 := cell_of_block (j := 4) hc1 rfl
  have k5 := cell_of_block (j := 5) hc1 rfl
  have HB1 := Lib.hid hb1
  have HZ1 := Lib.hid hz1
  have HC1 := Lib.hid hc1
  clear hb1 hz1 hc1 hw1
  go_upto_region 3 with (first
    | (go_at_call 12; refine (H12.out _ HB1.out).mono ?_; rintro ee w2 ⟨t, rfl, hsm, hB2⟩; have HSM := Lib.hid hsm; have HB2 := Lib.hid hB2; clear hsm hB2)
    | (go_at_call 13; refine (sum13 (xs := [(b.length : Int), (site.length : Int)]) (intRow_new _ _ _ _ _ _ _ rfl (by intro k z hz; match k, hz with | 0, hz => cases hz; rfl | 1, hz => cases hz; rfl) rfl) (by simp) (by simp) (by simp; omega) (by omega) (by omega)).mono ?_; rintro ee w3 ⟨r, rfl, r0, r1, r2, hB3⟩; have HR2 := Lib.hid r2; have HB3 := Lib.hid hB3; clear r2 hB3)
    | (go_at_call 14; refine (awake14 _).mono ?_; rintro ee w4 ⟨rfl, hB4⟩; have HB4 := Lib.hid hB4; clear hB4))
  · go_ret
    have hs1 := HB1.out.size
    have hs2 := HB2.out.size
    have hs3 := HB3.out.size
    have hb2 := HB1.out.trans (HB2.out.mono hs1)
    have hb3 := (hb2.alloc (by omega) (.cells #[.int .i64 b.length, .int .i64 site.length] 3)).trans (HB3.out.mono (by simp; omega))
    exact ⟨rfl, hb3.trans (HB4.out.mono (by simp at hs3; omega))⟩
  · have hsm := HSM.out (by assumption)
    have hrl := HR2.out (by omega)
    simp at hrl
    have hb2 : Below w1.heap.size w1 w3 := (HB2.out.alloc HB2.out.size (.cells #[.int .i64 b.length, .int .i64 site.length] 3)).trans (HB3.out.mono (by have := HB2.out.size; simp; omega))
    have hsz := hsm.rows
    have hzs := sizesR_length hsz
    have hc2 := (hb2.block w.heap.size (by have := HZ1.out; omega)).trans HC1.out
    have hS3 := (HS.out.below HB1.out (Nat.le_refl _)).below hb2 (Nat.le_refl _)
    have hR3 := (HR.out.below HB1.out (Nat.le_refl _)).below hb2 (Nat.le_refl _)
    have hbw := HB1.out.trans (hb2.mono HB1.out.size)
    have hlt0 : w.heap.size < w3.heap.size := by have := hb2.size; have := HZ1.out; omega
    have HSZ := Lib.hid hsz
    have HS3 := Lib.hid hS3
    have HR3 := Lib.hid hR3
    have HB3W := Lib.hid hbw
    have k0 := cell_of_block (j := 0) hc2 rfl
    have k1 := cell_of_block (j := 1) hc2 rfl
    have k2 := cell_of_block (j := 2) hc2 rfl
    have k3 := cell_of_block (j := 3) hc2 rfl
    have k4 := cell_of_block (j := 4) hc2 rfl
    have k5 := cell_of_block (j := 5) hc2 rfl
    have hn2 := hzs.1
    clear HB2 HB3 hb2 hzs hc2 hS3 hR3 hbw hsz HR HS H12 HC1 HZ1 HB1 HR2 HSM hsm
    go_upto_region 4 with (go_at_call 15; refine (made15 e As sites.length cs Ar cr Ae es.length ce Ah reach.length ch Ai inits.length ci rows w3 HR3.out (by omega)).mono ?_; unfold repV; rintro ee w5 ⟨A5, c5, rfl, hR5, hB5⟩; have HR5 := Lib.hid hR5; have HB5 := Lib.hid hB5; clear hR5 hB5)
    obtain ⟨w6, hw6⟩ : ∃ w6, w6 = w5.alloc (.cells #[.string (U e), .slice As sites.length cs, .slice A5 rows.length c5, .slice Ae es.length ce, .slice Ah reach.length ch, .slice Ai inits.length ci] 32) := ⟨_, rfl⟩
    rw [← hw6]
    have hb6 : Below w5.heap.size w5 w6 := by rw [hw6]; exact (Below.refl _ w5).alloc (Nat.le_refl _) _
    have hz6 : w6.heap.size = w5.heap.size + 1 := by rw [hw6]; exact World.size_alloc _ _
    have hc6 : w6.heap[w5.heap.size]? = some (.cells #[.string (U e), .slice As sites.length cs, .slice A5 rows.length c5, .slice Ae es.length ce, .slice Ah reach.length ch, .slice Ai inits.length ci] 32) := by rw [hw6]; exact block_new _ _
    have hS6 := (HS3.out.below HB5.out (Nat.le_refl _)).below hb6 (Nat.le_refl _)
    have hR6 := HR5.out.below hb6 (Nat.le_refl _)
    have hbw6 := (HB3W.out.trans (HB5.out.mono HB3W.out.size)).trans (hb6.mono (by have := HB3W.out.size; have := HB5.out.size; omega))
    have HAL := Lib.hid (aliasW e As cs A5 c5 (.slice Ae es.length ce) (.slice Ah reach.length ch) (.slice Ai inits.length ci) rows sites w6 hR6 HSZ.out)
    have HPN := Lib.hid (pointsNone e As cs A5 c5 (.slice Ae es.length ce) (.slice Ah reach.length ch) (.slice Ai inits.length ci) rows sites w6 hS6 hR6 HSZ.out)
    have HPS := Lib.hid (pointsSome e As cs A5 c5 (.slice Ae es.length ce) (.slice Ah reach.length ch) (.slice Ai inits.length ci) rows sites w6 hS6 hR6 HSZ.out)
    have HPT := Lib.hid (pointsX e As cs A5 c5 (.slice Ae es.length ce) (.slice Ah reach.length ch) (.slice Ai inits.length ci) rows sites w6 hS6 hR6 HSZ.out)
    have HWH := Lib.hid (whoW e As cs A5 c5 (.slice Ae es.length ce) (.slice Ah reach.length ch) (.slice Ai inits.length ci) rows sites w6 hS6 hR6 HSZ.out site)
    have HK6 := Lib.hid (fun w' (h : Below w6.heap.size w6 w') => keep6 hc6 h)
    have hs6 := keep6 hc6 (Below.refl _ w6)
    have HBW6 := Lib.hid hbw6
    have HS6 := Lib.hid hS6
    have HR6 := Lib.hid hR6
    have HC6 := Lib.hid hc6
    have HLT5 : Hid (w5.heap.size < w6.heap.size) := Lib.hid (by omega)
    obtain ⟨hq, l0, l1, l2, l3, l4, l5⟩ := hs6
    clear hw6 hb6 hz6 hc6 hS6 hR6 hbw6 k0 k1 k2 k3 k4 k5 HB5 HR5 HB3W HR3 HS3
    have hba := aliasB_symm sites.length rows b a
    obtain ⟨t1, ht1⟩ : ∃ t, aliasB sites.length rows a b = t := ⟨_, rfl⟩
    rw [ht1] at hba
    obtain ⟨t2, ht2⟩ : ∃ t, aliasB sites.length rows a a = t := ⟨_, rfl⟩
    have HT1 := Lib.hid ht1
    have HT2 := Lib.hid ht2
    have HT3 := Lib.hid hba
    clear ht1 ht2 hba
    unfold repV at HAL HPN HPS HPT HWH
    go_cut [49] (fun s49 wx => s49 = .bool false ∧ Below w6.heap.size w6 wx)
    case first =>
      have tok : True := trivial
      cases t1 <;> cases t2
      all_goals
        go_region_held3 (fun w' => Below w6.heap.size w6 w' ∧ w'.cell? ⟨w5.heap.size, 0, none⟩ = some (.string (U e)) ∧ w'.cell? ⟨w5.heap.size, 1, none⟩ = some (.slice As sites.length cs) ∧ w'.cell? ⟨w5.heap.size, 2, none⟩ = some (.slice A5 rows.length c5) ∧
            w'.cell? ⟨w5.heap.size, 3, none⟩ = some (.slice Ae es.length ce) ∧ w'.cell? ⟨w5.heap.size, 4, none⟩ = some (.slice Ah reach.length ch) ∧ w'.cell? ⟨w5.heap.size, 5, none⟩ = some (.slice Ai inits.length ci))
          (first
            | (exact HK6.out _ hq.drew)
            | (exact HK6.out _ hB7))
          (first
            | (go_at_call 16; go_split_ands; (with_reducible refine ((HAL.out _ _ _ (by first | exact HT1.out | exact HT2.out | exact HT3.out) _ (by assumption)).mono ?_)); rintro ee w7 ⟨rfl, hB7⟩)
            | (go_at_call 17; go_split_ands; (with_reducible refine ((HPN.out _ HT2.out _ (by assumption)).mono ?_)); rintro ee w7 ⟨A7, c7, rfl, hB7⟩)
            | (go_at_call 17; go_split_ands; (with_reducible refine ((HPS.out _ HT2.out _ (by assumption)).mono ?_)); rintro ee w7 ⟨A7, m7, c7, rfl, hm7, hB7⟩))
        all_goals
          go_wp2_with fail
          go_meet
          exact ⟨rfl, hB7⟩
    case rest =>
      obtain ⟨rfl, hB⟩ := hcut
      obtain ⟨hB, l0, l1, l2, l3, l4, l5⟩ := HK6.out _ hB
      have HB := Lib.hid hB
      clear hB hq HAL HPN HPS
      obtain ⟨ws, hws⟩ : ∃ ws, ws = whoOf sites rows site rows := ⟨_, rfl⟩
      have hwl : ws.length ≤ 2000 := by rw [hws]; exact Nat.le_trans (whoOf_len _ _ _ _) hn2
      have hin : ∀ v, v ∈ ws → holdsSite sites rows site v = true := by rw [hws]; exact fun v hv => (mem_whoOf.1 hv).2
      have hcon : holdsSite sites rows site a = true → ws.contains a = true := by rw [hws]; exact contains_who
      have HIN := Lib.hid hin
      have HCON := Lib.hid hcon
      rw [← hws] at HWH
      clear hin hcon hws
      go_upto_region 7 with (go_at_call 18; refine (HWH.out _ HB.out).mono ?_; rintro ee w8 ⟨A8, c8, rfl, hle, hS8, hB8⟩; have HLE8 := Lib.hid hle; have HS8 := Lib.hid hS8; have HB8 := Lib.hid hB8; clear hle hS8 hB8)
      go_wp2
      clear l0 l1 l2 l3 l4 l5
      go_loopw [11] (fun i wr => ∃ k : Nat, k ≤ ws.length ∧ i = .int .i64 k ∧ Below w6.heap.size w6 wr ∧ StrRow wr A8 ws) (fun i _ => ws.length - (intOf i).toNat)
      case atStart => exact ⟨0, Nat.zero_le _, rfl, HB8.out, HS8.out⟩
      case round =>
        obtain ⟨k, hk, rfl, hBr, hSr⟩ := hrel
        have HBR := Lib.hid hBr
        have HSR := Lib.hid hSr
        have HPTR := Lib.hid (pointsX e As cs A5 c5 (.slice Ae es.length ce) (.slice Ah reach.length ch) (.slice Ai inits.length ci) rows sites wr (HS6.out.below hBr (Nat.le_refl _)) (HR6.out.below hBr (Nat.le_refl _)) HSZ.out)
        have hcr := (hBr.block w5.heap.size HLT5.out).trans HC6.out
        have HKR := Lib.hid (fun w' (h : Below wr.heap.size wr w') => keep6 hcr h)
        obtain ⟨hq, l0, l1, l2, l3, l4, l5⟩ := HKR.out wr (Below.refl _ wr)
        unfold repV at HPTR
        clear hBr hSr hcr
        by_cases hlt : k < ws.length
        · obtain ⟨x, hx⟩ : ∃ x, ws[k]? = some x := ⟨_, List.getElem?_eq_getElem hlt⟩
          obtain ⟨ad, rfl, hcx⟩ := HSR.out k x hx
          have hxs := HIN.out x (List.mem_of_getElem? hx)
          have HXS := Lib.hid hxs
          have hkb : k ≤ 1000000 := by omega
          have hadl := World.block_lt_of_cell? wr _ hcx
          have HKX := Lib.hid (fun w' (h : Below wr.heap.size wr w') => (h.cell hadl).trans hcx)
          clear hx hxs hadl
          go_upto_region 10 with (fail)
          go_region_held3 (fun w' => Below wr.heap.size wr w' ∧ w'.cell? ⟨w5.heap.size, 0, none⟩ = some (.string (U e)) ∧ w'.cell? ⟨w5.heap.size, 1, none⟩ = some (.slice As sites.length cs) ∧ w'.cell? ⟨w5.heap.size, 2, none⟩ = some (.slice A5 rows.length c5) ∧
              w'.cell? ⟨w5.heap.size, 3, none⟩ = some (.slice Ae es.length ce) ∧ w'.cell? ⟨w5.heap.size, 4, none⟩ = some (.slice Ah reach.length ch) ∧ w'.cell? ⟨w5.heap.size, 5, none⟩ = some (.slice Ai inits.length ci) ∧ w'.cell? (ad.add k) = some (.string (U x)))
            (first
              | (exact ⟨hq.drew, (HKR.out _ hq.drew).2.1, (HKR.out _ hq.drew).2.2.1, (HKR.out _ hq.drew).2.2.2.1, (HKR.out _ hq.drew).2.2.2.2.1, (HKR.out _ hq.drew).2.2.2.2.2.1, (HKR.out _ hq.drew).2.2.2.2.2.2, HKX.out _ hq.drew⟩)
              | (exact ⟨hB9, (HKR.out _ hB9).2.1, (HKR.out _ hB9).2.2.1, (HKR.out _ hB9).2.2.2.1, (HKR.out _ hB9).2.2.2.2.1, (HKR.out _ hB9).2.2.2.2.2.1, (HKR.out _ hB9).2.2.2.2.2.2, HKX.out _ hB9⟩)
              | (exact ⟨hB10, (HKR.out _ hB10).2.1, (HKR.out _ hB10).2.2.1, (HKR.out _ hB10).2.2.2.1, (HKR.out _ hB10).2.2.2.2.1, (HKR.out _ hB10).2.2.2.2.2.1, (HKR.out _ hB10).2.2.2.2.2.2, HKX.out _ hB10⟩))
            (first
              | (go_at_call 17; go_split_ands; (with_reducible refine ((HPTR.out _ _ (by assumption)).mono ?_)); rintro ee w9 ⟨A9, c9, xs9, rfl, hle9, hle9', hstr9, hz9, hB9⟩; have HLE9 := Lib.hid hle9; have HSTR9 := Lib.hid hstr9; have HZ9 := Lib.hid hz9; clear hle9 hstr9 hz9)
              | (go_at_call 19; (with_reducible refine ((has19 HSTR9.out HLE9.out hle9' site).mono ?_)); rw [points_contains HZ9.out site, HXS.out]; rintro ee w10 ⟨rfl, hB10'⟩; have hB10 := hB9.trans (hB10'.mono hB9.size); clear hB10'))
          all_goals
            go_wp2
            go_roundw
            case measure => simp [intOf]; omega
            case rel => exact ⟨k + 1, hlt, by go_num, HBR.out.trans (hB10.mono HBR.out.size), HSR.out.below hB10 (Nat.le_refl _)⟩
        · have hke : k = ws.length := by omega
          subst hke
          have tok : True := trivial
          by_cases hh : holdsSite sites rows site a = true
          · have HH := Lib.hid hh
            have HWA := Lib.hid (HCON.out hh)
            clear hh
            go_wp2_with (first
              | (go_at_call 17; (with_reducible refine ((HPTR.out _ _ (Below.refl _ _)).mono ?_)); rintro ee w9 ⟨A9, c9, xs9, rfl, hle9, hle9', hstr9, hz9, hB9⟩; have HLE9 := Lib.hid hle9; have HSTR9 := Lib.hid hstr9; have HZ9 := Lib.hid hz9; have HB9 := Lib.hid hB9; clear hle9 hstr9 hz9 hB9)
              | (go_at_call 19; have _t := tok; (with_reducible refine ((has19 HSTR9.out HLE9.out hle9' site).mono ?_)); rw [points_contains HZ9.out site, HH.out]; rintro ee w10 ⟨rfl, hB10'⟩; have HB10 := Lib.hid (HB9.out.trans (hB10'.mono HB9.out.size)); clear hB10' tok)
              | (go_at_call 19; (with_reducible refine ((has19 (HSR.out.below HB10.out (Nat.le_refl _)) HLE8.out (by omega) a).mono ?_)); rw [HWA.out]; rintro ee w11 ⟨rfl, hB11'⟩; have HB11 := Lib.hid (HB10.out.trans (hB11'.mono HB10.out.size)); clear hB11')
              | (go_at_call 14; refine (awake14 _).mono ?_; rintro ee w12 ⟨rfl, hB12⟩; have HB12 := Lib.hid (HB11.out.trans (hB12.mono HB11.out.size)); clear hB12))
            go_ret
            have hs6 := HBW6.out.size
            exact ⟨rfl, HBW6.out.trans ((HBR.out.trans (HB12.out.mono HBR.out.size)).mono hs6)⟩
          · have hh : holdsSite sites rows site a = false := by simpa using hh
            have HH := Lib.hid hh
            clear hh
            go_wp2_with (first
              | (go_at_call 17; (with_reducible refine ((HPTR.out _ _ (Below.refl _ _)).mono ?_)); rintro ee w9 ⟨A9, c9, xs9, rfl, hle9, hle9', hstr9, hz9, hB9⟩; have HLE9 := Lib.hid hle9; have HSTR9 := Lib.hid hstr9; have HZ9 := Lib.hid hz9; have HB9 := Lib.hid hB9; clear hle9 hstr9 hz9 hB9)
              | (go_at_call 19; have _t := tok; (with_reducible refine ((has19 HSTR9.out HLE9.out hle9' site).mono ?_)); rw [points_contains HZ9.out site, HH.out]; rintro ee w10 ⟨rfl, hB10'⟩; have HB10 := Lib.hid (HB9.out.trans (hB10'.mono HB9.out.size)); clear hB10' tok)
              | (go_at_call 14; refine (awake14 _).mono ?_; rintro ee w12 ⟨rfl, hB12⟩; have HB12 := Lib.hid (HB10.out.trans (hB12.mono HB10.out.size)); clear hB12))
            go_ret
            have hs6 := HBW6.out.size
            exact ⟨rfl, HBW6.out.trans ((HBR.out.trans (HB12.out.mono HBR.out.size)).mono hs6)⟩
  · go_ret
    have hs1 := HB1.out.size
    have hs2 := HB2.out.size
    have hb2 := HB1.out.trans (HB2.out.mono hs1)
    exact ⟨rfl, hb2.trans (HB4.out.mono (by omega))⟩
end Go.Proofs.Ytljfknneijmfoaa
