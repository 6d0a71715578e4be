import Derived.Test.YtljfknneijmfoaaRefC
import Derived.Test.YtljfknneijmfoaaTxt
namespace Go.Proofs.Ytljfknneijmfoaa
open Go.RowKit Go.Maps Go.WideMaps Go.Lib
open Go.Proofs.YtljfknneijmfoaaW.PrintWords (q_of_own q_slice add_at)

theorem wayAgree {base : Nat} {w' : World} {es : List (S × Int × S)} {f t : S} {v : Value} {c z : Int} {r : List S} (h : WayAns base w' (ends es) f t v c) (h2 : Res es f t r z) : c = z ∧ ∃ A cc, v = .slice A r.length cc ∧ r.length ≤ cc ∧ StrRow w' A r := by
  rcases h with ⟨rfl, ps, d, hG, hh, ho⟩ | ⟨rfl, rfl, hno⟩
  · rcases h2 with ⟨rfl, d', hG', hh'⟩ | ⟨rfl, rfl, hno⟩
    · match ps, hh with
      | a :: p, hh =>
        match r, hh' with
        | b :: q, hh' =>
          cases hh
          cases hh'
          have hd := hG.dist.uniq hG'.dist
          subst hd
          have hpq := hG.uniq hG'
          subst hpq
          obtain ⟨A, cc, rfl, hle⟩ := q_slice (q_of_own ho)
          exact ⟨rfl, A, cc, rfl, hle, row_q (q_of_own ho)⟩
    · match ps, hh with
      | a :: p, hh =>
        cases hh
        exact absurd hG.dist (hno d)
  · rcases h2 with ⟨rfl, d', hG', hh'⟩ | ⟨rfl, rfl, _⟩
    · match r, hh' with
      | b :: q, hh' =>
        cases hh'
        exact absurd hG'.dist (hno d')
    · exact ⟨rfl, none, 0, rfl, Nat.le_refl _, fun k x hx => by simp at hx⟩

theorem keep12 {w1 w' : World} {b d : Nat} {c0 c1 c2 c3 c4 c5 e0 e1 e2 e3 e4 e5 : Value} {t s : TypeId} (hb : w1.heap[b]? = some (.cells #[c0, c1, c2, c3, c4, c5] t)) (hd : w1.heap[d]? = some (.cells #[e0, e1, e2, e3, e4, e5] s)) (h : Below w1.heap.size w1 w') :
    Below w1.heap.size w1 w' ∧ w'.cell? ⟨b, 0, none⟩ = some c0 ∧ w'.cell? ⟨b, 1, none⟩ = some c1 ∧ w'.cell? ⟨b, 2, none⟩ = some c2 ∧ w'.cell? ⟨b, 3, none⟩ = some c3 ∧ w'.cell? ⟨b, 4, none⟩ = some c4 ∧ w'.cell? ⟨b, 5, none⟩ = some c5 ∧
      w'.cell? ⟨d, 0, none⟩ = some e0 ∧ w'.cell? ⟨d, 1, none⟩ = some e1 ∧ w'.cell? ⟨d, 2, none⟩ = some e2 ∧ w'.cell? ⟨d, 3, none⟩ = some e3 ∧ w'.cell? ⟨d, 4, none⟩ = some e4 ∧ w'.cell? ⟨d, 5, none⟩ = some e5 := by
  obtain ⟨h0, k0, k1, k2, k3, k4, k5⟩ := keep6 hb h
  obtain ⟨_, l0, l1, l2, l3, l4, l5⟩ := keep6 hd h
  exact ⟨h0, k0, k1, k2, k3, k4, k5, l0, l1, l2, l3, l4, l5⟩

set_option maxRecDepth 100000 in
set_option maxHeartbeats 4000000 in
theorem queryCalls8 (e : S) (As : Option Addr) (sites : List S) (cs : Nat) (Ar : Option Addr) (rows : List (S × List Int)) (cr : Nat) (Ae : Option Addr) (es : List (S × Int × S)) (ce : Nat) (Ah : Option Addr) (reach : List S) (ch : Nat) (Ai : Option Addr) (inits : List S) (ci : Nat) (key : S) (pc : Int) (w : World)
    (he : e.length ≤ maxLen) (h1 : sites.length ≤ cs ∧ cs ≤ maxLen ∧ StrRow w As sites ∧ ∀ y ∈ sites, y.length ≤ maxLen)
    (h2 : rows.length ≤ cr ∧ cr ≤ maxLen ∧ SetRow w Ar rows ∧ ∀ r ∈ rows, r.1.length ≤ maxLen ∧ r.2.length ≤ maxLen ∧ ∀ z ∈ r.2, -9223372036854775808 ≤ z ∧ z ≤ 9223372036854775807)
    (h3 : es.length ≤ ce ∧ ce ≤ maxLen ∧ EdgeRow w Ae es ∧ ∀ e ∈ es, e.1.length ≤ maxLen ∧ e.2.2.length ≤ maxLen ∧ -9223372036854775808 ≤ e.2.1 ∧ e.2.1 ≤ 9223372036854775807)
    (h4 : reach.length ≤ ch ∧ ch ≤ maxLen ∧ StrRow w Ah reach ∧ ∀ y ∈ reach, y.length ≤ maxLen)
    (h5 : inits.length ≤ ci ∧ ci ≤ maxLen ∧ StrRow w Ai inits ∧ ∀ y ∈ inits, y.length ≤ maxLen)
    (hkey : key.length ≤ 9223372036854775807) (_ : -9223372036854775808 ≤ pc ∧ pc ≤ 9223372036854775807) :
    Calls Try.prog 8 #[.agg (repV e As sites.length cs Ar rows.length cr (.slice Ae es.length ce) (.slice Ah reach.length ch) (.slice Ai inits.length ci)), .string (U key), .int .i64 pc] w fun ee w' => ee = .returned (.bool true) ∧ Below w.heap.size w w' := by
  have HS := Lib.hid h1.2.2.1
  have HR := Lib.hid h2.2.2.1
  have HE := Lib.hid h3.2.2.1
  have HH4 := Lib.hid h4
  have HH5 := Lib.hid h5
  have HLE := Lib.hid (show sites.length ≤ cs ∧ sites.length ≤ 9223372036854775807 ∧ rows.length ≤ cr ∧ es.length ≤ ce from by unfold maxLen at *; omega)
  have H12 := Lib.hid (fun W (hB : Below w.heap.size w W) => small12 e As sites cs Ar rows cr Ae es ce Ah reach ch Ai inits ci W he
    ⟨h1.1, h1.2.1, h1.2.2.1.below hB (Nat.le_refl _), h1.2.2.2⟩ ⟨h2.1, h2.2.1, h2.2.2.1.below hB (Nat.le_refl _), h2.2.2.2⟩ ⟨h3.1, h3.2.1, h3.2.2.1.below hB (Nat.le_refl _), h3.2.2.2⟩
    ⟨h4.1, h4.2.1, h4.2.2.1.below hB (Nat.le_refl _), h4.2.2.2⟩ ⟨h5.1, h5.2.1, h5.2.2.1.below hB (Nat.le_refl _), h5.2.2.2⟩)
  clear h1 h2 h3 h4 h5 he
  have szk : ((U key).size : Int) = key.length := by rw [size_U]
  unfold repV at *
  go_enter Try.func8, Try.ntmps8
  go_upto_region 1 with (fail)
  obtain ⟨w1, hw1⟩ : ∃ w1, w1 = w.alloc (.cells #[.string (U e), .slice As sites.length cs, .slice Ar rows.length cr, .slice Ae es.length ce, .slice Ah reach.length ch, .slice Ai inits.length ci] 26) := ⟨_, rfl⟩
  rw [← hw1]
  have hb1 : Below w.heap.size w w1 := by rw [hw1]; exact (Below.refl _ w).alloc (Nat.le_refl _) _
  have hz1 : w1.heap.size = w.heap.size + 1 := by rw [hw1]; exact World.size_alloc _ _
  have hc1 : w1.heap[w.heap.size]? = some (.cells #[.string (U e), .slice As sites.length cs, .slice Ar rows.length cr, .slice Ae es.length ce, .slice Ah reach.length ch, .slice Ai inits.length ci] 26) := by rw [hw1]; exact block_new _ _
  have k0 := cell_of_block (j := 0) hc1 rfl
  have k1 := cell_of_block (j := 1) hc1 rfl
  have k2 := cell_of_block (j := 2) hc1 rfl
  have k3 := cell_of_block (j := 3) hc1 rfl
  have k4 := cell_of_block (j := 4) hc1 rfl
  have k5 := cell_of_block (j := 5) hc1 rfl
  have HB1 := Lib.hid hb1
  have HZ1 := Lib.hid hz1
  have HC1 := Lib.hid hc1
  clear hb1 hz1 hc1 hw1
  go_upto_region 3 with (first
    | (go_at_call 12; refine (H12.out _ HB1.out).mono ?_; rintro ee w2 ⟨t, rfl, hsm, hB2⟩; have HSM := Lib.hid hsm; have HB2 := Lib.hid hB2; have hcc := (hB2.block w.heap.size (by have := HZ1.out; omega)).trans HC1.out; clear k0 k1 k2 k3 k4 k5; have k0 := cell_of_block (j := 0) hcc rfl; have k1 := cell_of_block (j := 1) hcc rfl; have k2 := cell_of_block (j := 2) hcc rfl; have k3 := cell_of_block (j := 3) hcc rfl; have k4 := cell_of_block (j := 4) hcc rfl; have k5 := cell_of_block (j := 5) hcc rfl; have HCC := Lib.hid hcc; clear hsm hB2 hcc)
    | (go_at_call 14; refine (awake14 _).mono ?_; rintro ee w4 ⟨rfl, hB4⟩; have HB4 := Lib.hid hB4; clear hB4))
  · go_ret
    have hs1 := HB1.out.size
    have hs2 := HB2.out.size
    exact ⟨rfl, HB1.out.trans ((HB2.out.mono hs1).trans (HB4.out.mono (by omega)))⟩
  · have hsm := HSM.out (by assumption)
    have hsz := hsm.rows
    have hez := sizesE_length hsm.edges
    have hen := hsm.entry
    have hkl : key.length ≤ 200 := by omega
    have hn2 := (sizesR_length hsz).1
    have hne : es.length ≤ 2000 := hez.1
    have HEZ := Lib.hid hez.2
    have hbw := HB1.out.trans (HB2.out.mono HB1.out.size)
    have hlt0 : w.heap.size < w2.heap.size := by have := HB2.out.size; have := HZ1.out; omega
    have HBW := Lib.hid hbw
    have HSZ := Lib.hid hsz
    clear HB2 hsz hbw H12 HC1 HZ1 HB1 HSM hsm hez
    go_upto_region 4 with (go_at_call 15; refine (made15 e As sites.length cs Ar cr Ae es.length ce Ah reach.length ch Ai inits.length ci rows w2 (HR.out.below HBW.out (Nat.le_refl _)) (by omega)).mono ?_; unfold repV; rintro ee w5 ⟨A5, c5, rfl, hR5, hB5⟩; have HB5 := Lib.hid hB5; clear hR5 hB5)
    obtain ⟨w6, hw6⟩ : ∃ w6, w6 = w5.alloc (.cells #[.string (U e), .slice As sites.length cs, .slice A5 rows.length c5, .slice Ae es.length ce, .slice Ah reach.length ch, .slice Ai inits.length ci] 32) := ⟨_, rfl⟩
    rw [← hw6]
    have hb6 : Below w5.heap.size w5 w6 := by rw [hw6]; exact (Below.refl _ w5).alloc (Nat.le_refl _) _
    have hc6 : w6.heap[w5.heap.size]? = some (.cells #[.string (U e), .slice As sites.length cs, .slice A5 rows.length c5, .slice Ae es.length ce, .slice Ah reach.length ch, .slice Ai inits.length ci] 32) := by rw [hw6]; exact block_new _ _
    have hbw6 := (HBW.out.trans (HB5.out.mono HBW.out.size)).trans (hb6.mono (by have := HBW.out.size; have := HB5.out.size; omega))
    have hcb6 := (hb6.block w.heap.size (by have := HB5.out.size; omega)).trans ((HB5.out.block w.heap.size hlt0).trans HCC.out)
    have HC6 := Lib.hid hc6
    have HCB6 := Lib.hid hcb6
    have HBW6 := Lib.hid hbw6
    have HL5 : Hid (w5.heap.size < w6.heap.size) := Lib.hid (Array.getElem?_eq_some_iff.1 hc6).1
    have HL0 : Hid (w.heap.size < w6.heap.size) := Lib.hid (Array.getElem?_eq_some_iff.1 hcb6).1
    clear k0 k1 k2 k3 k4 k5
    have l0 := cell_of_block (j := 0) hc6 rfl
    have l1 := cell_of_block (j := 1) hc6 rfl
    have l2 := cell_of_block (j := 2) hc6 rfl
    have l3 := cell_of_block (j := 3) hc6 rfl
    have l4 := cell_of_block (j := 4) hc6 rfl
    have l5 := cell_of_block (j := 5) hc6 rfl
    have H32 := Lib.hid (way32 e As sites.length cs A5 rows.length c5 Ae ce (.slice Ah reach.length ch) (.slice Ai inits.length ci) es key w6 (HE.out.below hbw6 (Nat.le_refl _)) (by omega) HLE.out.2.2.2 (fun y hy => by have := HEZ.out y hy; omega) (by omega) (by omega))
    unfold repV at H32
    clear hw6 hb6 hc6 hbw6 hcb6 HB5 HBW HCC
    go_upto_region 5 with (go_at_call 32; refine H32.out.mono ?_; rintro ee w7 ⟨v7, z7, rfl, hway, hB7⟩; have HWAY := Lib.hid hway; have HB7 := Lib.hid hB7; clear hway hB7)
    clear l0 l1 l2 l3 l4 l5
    have hcr7 := (HB7.out.block w.heap.size HL0.out).trans HCB6.out
    have k0 := cell_of_block (j := 0) hcr7 rfl
    have k3 := cell_of_block (j := 3) hcr7 rfl
    have hbw7 := HBW6.out.trans (HB7.out.mono HBW6.out.size)
    have H28 := Lib.hid (refPath28 (HE.out.below hbw7 (Nat.le_refl _)) HLE.out.2.2.2 (by omega) e key)
    have HBW7 := Lib.hid hbw7
    have HCR7 := Lib.hid hcr7
    clear hcr7 hbw7
    go_upto_region 6 with (go_at_call 28; refine H28.out.mono ?_; rintro ee w8 ⟨A8, c8, r8, z8, rfl, hle8, hl8, hstr8, hres8, hB8⟩; obtain ⟨rfl, A7, c7, rfl, hle7, hstr7⟩ := wayAgree HWAY.out hres8; have HSTR7 := Lib.hid (hstr7.below hB8 (Nat.le_refl _)); have HSTR8 := Lib.hid hstr8; have HLE7 := Lib.hid hle7; have HLE8 := Lib.hid hle8; have HB8 := Lib.hid hB8; clear hle8 hstr8 hres8 hB8 hle7 hstr7)
    clear k0 k3 HWAY H28 H32
    have hcb8 := (HB8.out.block w.heap.size (by have := HB7.out.size; have := HL0.out; omega)).trans HCR7.out
    have hc8x := (HB8.out.block w5.heap.size (by have := HB7.out.size; have := HL5.out; omega)).trans ((HB7.out.block w5.heap.size HL5.out).trans HC6.out)
    have hbw8 := HBW7.out.trans (HB8.out.mono HBW7.out.size)
    have hS8 := HS.out.below hbw8 (Nat.le_refl _)
    have hR8 := HR.out.below hbw8 (Nat.le_refl _)
    have hE8 := HE.out.below hbw8 (Nat.le_refl _)
    have hh4 : reach.length ≤ ch ∧ StrRow w8 Ah reach ∧ reach.length ≤ 9223372036854775807 := ⟨HH4.out.1, HH4.out.2.2.1.below hbw8 (Nat.le_refl _), by have := HH4.out.1; have := HH4.out.2.1; unfold maxLen at *; omega⟩
    have hh5 : inits.length ≤ ci ∧ StrRow w8 Ai inits ∧ inits.length ≤ 9223372036854775807 := ⟨HH5.out.1, HH5.out.2.2.1.below hbw8 (Nat.le_refl _), by have := HH5.out.1; have := HH5.out.2.1; unfold maxLen at *; omega⟩
    obtain ⟨LT, hLT⟩ : ∃ l, l = es.filter (isTo key) := ⟨_, rfl⟩
    obtain ⟨LF, hLF⟩ : ∃ l, l = es.filter (isFrom key) := ⟨_, rfl⟩
    obtain ⟨LL, hLL⟩ : ∃ l, l = es.filter (isLone es) := ⟨_, rfl⟩
    obtain ⟨LA, hLA⟩ : ∃ l, l = (es.filter (isAt key pc)).map (·.2.2) := ⟨_, rfl⟩
    have lT : LT.length ≤ 100000 := by rw [hLT]; exact Nat.le_trans (List.length_filter_le _ _) (by omega)
    have lF : LF.length ≤ 100000 := by rw [hLF]; exact Nat.le_trans (List.length_filter_le _ _) (by omega)
    have lL : LL.length ≤ 100000 := by rw [hLL]; exact Nat.le_trans (List.length_filter_le _ _) (by omega)
    have lA : LA.length ≤ 100000 := by rw [hLA, List.length_map]; exact Nat.le_trans (List.length_filter_le _ _) (by omega)
    have H34 : Hid (∀ W, Below w8.heap.size w8 W → Calls Try.prog 34 #[.agg #[.string (U e), .slice As sites.length cs, .slice A5 rows.length c5, .slice Ae es.length ce, .slice Ah reach.length ch, .slice Ai inits.length ci], .string (U key)] W (EdgeAns W LT)) := Lib.hid (fun W hB => by
      rw [hLT]; exact callers34 e As sites.length cs A5 rows.length c5 Ae ce (.slice Ah reach.length ch) (.slice Ai inits.length ci) es W (hE8.below hB (Nat.le_refl _)) (by omega) key)
    have H36 : Hid (∀ W, Below w8.heap.size w8 W → Calls Try.prog 36 #[.agg #[.string (U e), .slice As sites.length cs, .slice A5 rows.length c5, .slice Ae es.length ce, .slice Ah reach.length ch, .slice Ai inits.length ci], .string (U key)] W (EdgeAns W LF)) := Lib.hid (fun W hB => by
      rw [hLF]; exact callees36 e As sites.length cs A5 rows.length c5 Ae ce (.slice Ah reach.length ch) (.slice Ai inits.length ci) es W (hE8.below hB (Nat.le_refl _)) (by omega) key)
    have H39 : Hid (∀ W, Below w8.heap.size w8 W → Calls Try.prog 39 #[.agg #[.string (U e), .slice As sites.length cs, .slice A5 rows.length c5, .slice Ae es.length ce, .slice Ah reach.length ch, .slice Ai inits.length ci]] W (EdgeAns W LL)) := Lib.hid (fun W hB => by
      rw [hLL]; exact lonely39 e As sites.length cs A5 rows.length c5 Ae ce (.slice Ah reach.length ch) (.slice Ai inits.length ci) es W (hE8.below hB (Nat.le_refl _)) (by omega))
    have H37 : Hid (∀ W, Below w8.heap.size w8 W → Calls Try.prog 37 #[.agg #[.string (U e), .slice As sites.length cs, .slice A5 rows.length c5, .slice Ae es.length ce, .slice Ah reach.length ch, .slice Ai inits.length ci], .string (U key), .int .i64 pc] W fun ee w' => ∃ A c, ee = .returned (.slice A LA.length c) ∧ LA.length ≤ c ∧ StrRow w' A LA ∧ Below W.heap.size W w') := Lib.hid (fun W hB => by
      rw [hLA]; exact at37 e As sites.length cs A5 rows.length c5 Ae ce (.slice Ah reach.length ch) (.slice Ai inits.length ci) es W (hE8.below hB (Nat.le_refl _)) (by omega) key pc)
    have H35t : Hid (∀ W, Below w8.heap.size w8 W → Calls Try.prog 35 #[.agg #[.string (U e), .slice As sites.length cs, .slice Ar rows.length cr, .slice Ae es.length ce, .slice Ah reach.length ch, .slice Ai inits.length ci], .string (U key), .bool true] W (EdgeAns W LT)) := Lib.hid (fun W hB => by
      rw [hLT]; exact refSome35 e As cs Ar cr Ae ce Ah ch Ai ci rows sites es reach inits W ⟨HLE.out.1, hS8.below hB (Nat.le_refl _), HLE.out.2.1⟩ ⟨HLE.out.2.2.1, hR8.below hB (Nat.le_refl _)⟩ ⟨HLE.out.2.2.2, hE8.below hB (Nat.le_refl _), by omega⟩ ⟨hh4.1, hh4.2.1.below hB (Nat.le_refl _), hh4.2.2⟩ ⟨hh5.1, hh5.2.1.below hB (Nat.le_refl _), hh5.2.2⟩ HSZ.out true key)
    have H35f : Hid (∀ W, Below w8.heap.size w8 W → Calls Try.prog 35 #[.agg #[.string (U e), .slice As sites.length cs, .slice Ar rows.length cr, .slice Ae es.length ce, .slice Ah reach.length ch, .slice Ai inits.length ci], .string (U key), .bool false] W (EdgeAns W LF)) := Lib.hid (fun W hB => by
      rw [hLF]; exact refSome35 e As cs Ar cr Ae ce Ah ch Ai ci rows sites es reach inits W ⟨HLE.out.1, hS8.below hB (Nat.le_refl _), HLE.out.2.1⟩ ⟨HLE.out.2.2.1, hR8.below hB (Nat.le_refl _)⟩ ⟨HLE.out.2.2.2, hE8.below hB (Nat.le_refl _), by omega⟩ ⟨hh4.1, hh4.2.1.below hB (Nat.le_refl _), hh4.2.2⟩ ⟨hh5.1, hh5.2.1.below hB (Nat.le_refl _), hh5.2.2⟩ HSZ.out false key)
    have H40 : Hid (∀ W, Below w8.heap.size w8 W → Calls Try.prog 40 #[.agg #[.string (U e), .slice As sites.length cs, .slice Ar rows.length cr, .slice Ae es.length ce, .slice Ah reach.length ch, .slice Ai inits.length ci]] W (EdgeAns W LL)) := Lib.hid (fun W hB => by
      rw [hLL]; exact refLone40 e As cs Ar cr Ae ce Ah ch Ai ci rows sites es reach inits W ⟨HLE.out.1, hS8.below hB (Nat.le_refl _), HLE.out.2.1⟩ ⟨HLE.out.2.2.1, hR8.below hB (Nat.le_refl _)⟩ ⟨HLE.out.2.2.2, hE8.below hB (Nat.le_refl _), by omega⟩ ⟨hh4.1, hh4.2.1.below hB (Nat.le_refl _), hh4.2.2⟩ ⟨hh5.1, hh5.2.1.below hB (Nat.le_refl _), hh5.2.2⟩ HSZ.out)
    have H38 : Hid (∀ W, Below w8.heap.size w8 W → Calls Try.prog 38 #[.agg #[.string (U e), .slice As sites.length cs, .slice Ar rows.length cr, .slice Ae es.length ce, .slice Ah reach.length ch, .slice Ai inits.length ci], .string (U key), .int .i64 pc] W fun ee w' => ∃ A c, ee = .returned (.slice A LA.length c) ∧ LA.length ≤ c ∧ StrRow w' A LA ∧ Below W.heap.size W w') := Lib.hid (fun W hB => by
      rw [hLA]; exact refAt38 e As cs Ar cr Ae ce Ah ch Ai ci rows sites es reach inits W ⟨HLE.out.1, hS8.below hB (Nat.le_refl _), HLE.out.2.1⟩ ⟨HLE.out.2.2.1, hR8.below hB (Nat.le_refl _)⟩ ⟨HLE.out.2.2.2, hE8.below hB (Nat.le_refl _), by omega⟩ ⟨hh4.1, hh4.2.1.below hB (Nat.le_refl _), hh4.2.2⟩ ⟨hh5.1, hh5.2.1.below hB (Nat.le_refl _), hh5.2.2⟩ HSZ.out key pc)
    have HK := Lib.hid (fun w' (h : Below w8.heap.size w8 w') => keep12 hcb8 hc8x h)
    have hcur := (Below.refl w8.heap.size w8).drew
    have HBW8 := Lib.hid hbw8
    clear hcb8 hc8x hbw8 hS8 hR8 hE8 hh4 hh5 hLT hLF hLL hLA HB7 HB8 HCR7 HBW7 HC6 HCB6 HBW6 HS HR HE HH4 HH5 HLE HEZ szk
    go_region_held3 (fun w' => Below w8.heap.size w8 w' ∧ w'.cell? ⟨w.heap.size, 0, none⟩ = some (.string (U e)) ∧ w'.cell? ⟨w.heap.size, 1, none⟩ = some (.slice As sites.length cs) ∧ w'.cell? ⟨w.heap.size, 2, none⟩ = some (.slice Ar rows.length cr) ∧
        w'.cell? ⟨w.heap.size, 3, none⟩ = some (.slice Ae es.length ce) ∧ w'.cell? ⟨w.heap.size, 4, none⟩ = some (.slice Ah reach.length ch) ∧ w'.cell? ⟨w.heap.size, 5, none⟩ = some (.slice Ai inits.length ci) ∧
        w'.cell? ⟨w5.heap.size, 0, none⟩ = some (.string (U e)) ∧ w'.cell? ⟨w5.heap.size, 1, none⟩ = some (.slice As sites.length cs) ∧ w'.cell? ⟨w5.heap.size, 2, none⟩ = some (.slice A5 rows.length c5) ∧
        w'.cell? ⟨w5.heap.size, 3, none⟩ = some (.slice Ae es.length ce) ∧ w'.cell? ⟨w5.heap.size, 4, none⟩ = some (.slice Ah reach.length ch) ∧ w'.cell? ⟨w5.heap.size, 5, none⟩ = some (.slice Ai inits.length ci))
      (exact HK.out _ hcur)
      (first
        | (go_at_call 34; (with_reducible refine ((H34.out _ hcur).mono ?_)); rintro ee w9 ⟨A9, c9, rfl, hle9, hrow9, hB9⟩; have HLE9 := Lib.hid hle9; have HROW9 := Lib.hid hrow9; replace hcur := hcur.trans (hB9.mono hcur.size); clear hle9 hrow9 hB9)
        | (go_at_call 36; (with_reducible refine ((H36.out _ hcur).mono ?_)); rintro ee w9 ⟨A9, c9, rfl, hle9, hrow9, hB9⟩; have HLE9 := Lib.hid hle9; have HROW9 := Lib.hid hrow9; replace hcur := hcur.trans (hB9.mono hcur.size); clear hle9 hrow9 hB9)
        | (go_at_call 39; (with_reducible refine ((H39.out _ hcur).mono ?_)); rintro ee w9 ⟨A9, c9, rfl, hle9, hrow9, hB9⟩; have HLE9 := Lib.hid hle9; have HROW9 := Lib.hid hrow9; replace hcur := hcur.trans (hB9.mono hcur.size); clear hle9 hrow9 hB9)
        | (go_at_call 37; (with_reducible refine ((H37.out _ hcur).mono ?_)); rintro ee w9 ⟨A9, c9, rfl, hle9, hrow9, hB9⟩; have HLE9 := Lib.hid hle9; have HSTR9 := Lib.hid hrow9; replace hcur := hcur.trans (hB9.mono hcur.size); clear hle9 hrow9 hB9)
        | (go_at_call 35; (with_reducible refine ((H35t.out _ hcur).mono ?_)); rintro ee w10 ⟨A10, c10, rfl, hle10, hrow10, hB10⟩; have HLE10 := Lib.hid hle10; have HROW10 := Lib.hid hrow10; have HROW9 := Lib.hid (HROW9.out.below hB10 (Nat.le_refl _)); replace hcur := hcur.trans (hB10.mono hcur.size); clear hle10 hrow10 hB10)
        | (go_at_call 35; (with_reducible refine ((H35f.out _ hcur).mono ?_)); rintro ee w10 ⟨A10, c10, rfl, hle10, hrow10, hB10⟩; have HLE10 := Lib.hid hle10; have HROW10 := Lib.hid hrow10; have HROW9 := Lib.hid (HROW9.out.below hB10 (Nat.le_refl _)); replace hcur := hcur.trans (hB10.mono hcur.size); clear hle10 hrow10 hB10)
        | (go_at_call 40; (with_reducible refine ((H40.out _ hcur).mono ?_)); rintro ee w10 ⟨A10, c10, rfl, hle10, hrow10, hB10⟩; have HLE10 := Lib.hid hle10; have HROW10 := Lib.hid hrow10; have HROW9 := Lib.hid (HROW9.out.below hB10 (Nat.le_refl _)); replace hcur := hcur.trans (hB10.mono hcur.size); clear hle10 hrow10 hB10)
        | (go_at_call 38; (with_reducible refine ((H38.out _ hcur).mono ?_)); rintro ee w10 ⟨A10, c10, rfl, hle10, hrow10, hB10⟩; have HLE10 := Lib.hid hle10; have HSTR10 := Lib.hid hrow10; have HSTR9 := Lib.hid (HSTR9.out.below hB10 (Nat.le_refl _)); replace hcur := hcur.trans (hB10.mono hcur.size); clear hle10 hrow10 hB10)
        | (go_at_call 33; (with_reducible refine ((same33 HROW9.out HLE9.out HROW10.out HLE10.out (by omega)).mono ?_)); rintro ee w11 ⟨rfl, hB11⟩; replace hcur := hcur.trans (hB11.mono hcur.size); clear hB11)
        | (go_at_call 20; (with_reducible refine ((texts20 HSTR9.out HLE9.out HSTR10.out HLE10.out (by omega)).mono ?_)); rintro ee w12 ⟨rfl, hB12⟩; replace hcur := hcur.trans (hB12.mono hcur.size); clear hB12)
        | (go_at_call 20; (with_reducible refine ((texts20 (HSTR7.out.below hcur (Nat.le_refl _)) HLE7.out (HSTR8.out.below hcur (Nat.le_refl _)) HLE8.out (by omega)).mono ?_)); rintro ee w13 ⟨rfl, hB13⟩; replace hcur := hcur.trans (hB13.mono hcur.size); clear hB13)
        | (go_at_call 14; refine (awake14 _).mono ?_; rintro ee w14 ⟨rfl, hB14⟩; replace hcur := hcur.trans (hB14.mono hcur.size); clear hB14))
    all_goals
      go_wp2
      go_ret
      exact ⟨rfl, HBW8.out.trans (hcur.mono HBW8.out.size)⟩
  · go_ret
    have hs1 := HB1.out.size
    have hs2 := HB2.out.size
    exact ⟨rfl, HB1.out.trans ((HB2.out.mono hs1).trans (HB4.out.mono (by omega)))⟩
end Go.Proofs.Ytljfknneijmfoaa
