import Derived.Test.YtljfknneijmfoaaRefA
import Derived.Test.YtljfknneijmfoaaRefW
namespace Go.Proofs.Ytljfknneijmfoaa
open Go.RowKit Go.Maps Go.WideMaps Go.Lib
open Go.Proofs.YtljfknneijmfoaaW.PrintWords (q_of_own q_slice add_at)


theorem intRow_at (w : World) (n : Nat) (o : Obj) (c : Array Value) (zs : List Int) (t : TypeId) (fr : Nat × Nat) (ho : o = .cells c t fr) (hc : ∀ (k : Nat) (z : Int), zs[k]? = some z → c[k]? = some (.int .i64 z)) (hn : n = w.heap.size) : IntRow (w.alloc o) (some ⟨n, 0, none⟩) zs := by
  subst ho hn
  intro k z hz
  refine ⟨_, rfl, ?_⟩
  rw [add_at, Nat.zero_add]
  exact cell_of_block (block_new _ _) (hc k z hz)

open Classical in
/-- A variable's sites, under one name. -/
noncomputable def ptsOf (sites : List S) (rows : List (S × List Int)) (v : S) : List S :=
  if h : ∃ zs, IsNums sites.length v rows zs then (Classical.choose h).map (siteAt sites) else []

theorem pts_eq {sites : List S} {rows : List (S × List Int)} {v : S} {xs : List S} (h : ∃ zs, xs = zs.map (siteAt sites) ∧ IsNums sites.length v rows zs) : xs = ptsOf sites rows v := by
  obtain ⟨zs, rfl, hz⟩ := h
  have hx : ∃ zs, IsNums sites.length v rows zs := ⟨zs, hz⟩
  unfold ptsOf
  rw [dif_pos hx, hz.uniq (Classical.choose_spec hx)]

/-- A row of strings is answered; what was is as it was. -/
def RowAns (W : World) (L : List S) (ee : Ending) (w' : World) : Prop := ∃ A c, ee = .returned (.slice A L.length c) ∧ L.length ≤ c ∧ L.length ≤ 1000000 ∧ StrRow w' A L ∧ Below W.heap.size W w'

theorem keep12 {w1 w' : World} {b d : Nat} {c0 c1 c2 c3 c4 c5 e0 e1 e2 e3 e4 e5 : Value} {t s : TypeId} (hb : w1.heap[b]? = some (.cells #[c0, c1, c2, c3, c4, c5] t)) (hd : w1.heap[d]? = some (.cells #[e0, e1, e2, e3, e4, e5] s)) (h : Below w1.heap.size w1 w') :
    Below w1.heap.size w1 w' ∧ w'.cell? ⟨b, 0, none⟩ = some c0 ∧ w'.cell? ⟨b, 1, none⟩ = some c1 ∧ w'.cell? ⟨b, 2, none⟩ = some c2 ∧ w'.cell? ⟨b, 3, none⟩ = some c3 ∧ w'.cell? ⟨b, 4, none⟩ = some c4 ∧ w'.cell? ⟨b, 5, none⟩ = some c5 ∧
      w'.cell? ⟨d, 0, none⟩ = some e0 ∧ w'.cell? ⟨d, 1, none⟩ = some e1 ∧ w'.cell? ⟨d, 2, none⟩ = some e2 ∧ w'.cell? ⟨d, 3, none⟩ = some e3 ∧ w'.cell? ⟨d, 4, none⟩ = some e4 ∧ w'.cell? ⟨d, 5, none⟩ = some e5 := by
  obtain ⟨h0, k0, k1, k2, k3, k4, k5⟩ := keep6 hb h
  obtain ⟨_, l0, l1, l2, l3, l4, l5⟩ := keep6 hd h
  exact ⟨h0, k0, k1, k2, k3, k4, k5, l0, l1, l2, l3, l4, l5⟩

set_option maxRecDepth 100000 in
set_option maxHeartbeats 4000000 in
theorem queryAsks4 (e : S) (As : Option Addr) (sites : List S) (cs : Nat) (Ar : Option Addr) (rows : List (S × List Int)) (cr : Nat) (Ae : Option Addr) (es : List (S × Int × S)) (ce : Nat) (Ah : Option Addr) (reach : List S) (ch : Nat) (Ai : Option Addr) (inits : List S) (ci : Nat) (a b : S) (w : World)
    (he : e.length ≤ maxLen) (h1 : sites.length ≤ cs ∧ cs ≤ maxLen ∧ StrRow w As sites ∧ ∀ y ∈ sites, y.length ≤ maxLen)
    (h2 : rows.length ≤ cr ∧ cr ≤ maxLen ∧ SetRow w Ar rows ∧ ∀ r ∈ rows, r.1.length ≤ maxLen ∧ r.2.length ≤ maxLen ∧ ∀ z ∈ r.2, -9223372036854775808 ≤ z ∧ z ≤ 9223372036854775807)
    (h3 : es.length ≤ ce ∧ ce ≤ maxLen ∧ EdgeRow w Ae es ∧ ∀ e ∈ es, e.1.length ≤ maxLen ∧ e.2.2.length ≤ maxLen ∧ -9223372036854775808 ≤ e.2.1 ∧ e.2.1 ≤ 9223372036854775807)
    (h4 : reach.length ≤ ch ∧ ch ≤ maxLen ∧ StrRow w Ah reach ∧ ∀ y ∈ reach, y.length ≤ maxLen)
    (h5 : inits.length ≤ ci ∧ ci ≤ maxLen ∧ StrRow w Ai inits ∧ ∀ y ∈ inits, y.length ≤ maxLen)
    (ha : a.length ≤ 9223372036854775807) (hb : b.length ≤ 9223372036854775807) :
    Calls Try.prog 4 #[.agg (repV e As sites.length cs Ar rows.length cr (.slice Ae es.length ce) (.slice Ah reach.length ch) (.slice Ai inits.length ci)), .string (U a), .string (U b)] w fun ee w' => ee = .returned (.bool true) ∧ Below w.heap.size w w' := by
  have HS := Lib.hid h1.2.2.1
  have HR := Lib.hid h2.2.2.1
  have HE := Lib.hid h3.2.2.1
  have HH4 := Lib.hid h4
  have HH5 := Lib.hid h5
  have HLE := Lib.hid (show sites.length ≤ cs ∧ sites.length ≤ 9223372036854775807 ∧ rows.length ≤ cr ∧ es.length ≤ ce ∧ es.length ≤ 9223372036854775807 from by unfold maxLen at *; omega)
  have H12 := Lib.hid (fun W (hB : Below w.heap.size w W) => small12 e As sites cs Ar rows cr Ae es ce Ah reach ch Ai inits ci W he
    ⟨h1.1, h1.2.1, h1.2.2.1.below hB (Nat.le_refl _), h1.2.2.2⟩ ⟨h2.1, h2.2.1, h2.2.2.1.below hB (Nat.le_refl _), h2.2.2.2⟩ ⟨h3.1, h3.2.1, h3.2.2.1.below hB (Nat.le_refl _), h3.2.2.2⟩
    ⟨h4.1, h4.2.1, h4.2.2.1.below hB (Nat.le_refl _), h4.2.2.2⟩ ⟨h5.1, h5.2.1, h5.2.2.1.below hB (Nat.le_refl _), h5.2.2.2⟩)
  clear h1 h2 h3 h4 h5 he
  have sza : ((U a).size : Int) = a.length := by rw [size_U]
  have szb : ((U b).size : Int) = b.length := by rw [size_U]
  unfold repV at *
  go_enter Try.func4, Try.ntmps4
  go_upto_region 1 with (fail)
  obtain ⟨w1, hw1⟩ : ∃ w1, w1 = w.alloc (.cells #[.string (U e), .slice As sites.length cs, .slice Ar rows.length cr, .slice Ae es.length ce, .slice Ah reach.length ch, .slice Ai inits.length ci] 26) := ⟨_, rfl⟩
  rw [← hw1]
  have hb1 : Below w.heap.size w w1 := by rw [hw1]; exact (Below.refl _ w).alloc (Nat.le_refl _) _
  have hz1 : w1.heap.size = w.heap.size + 1 := by rw [hw1]; exact World.size_alloc _ _
  have hc1 : w1.heap[w.heap.size]? = some (.cells #[.string (U e), .slice As sites.length cs, .slice Ar rows.length cr, .slice Ae es.length ce, .slice Ah reach.length ch, .slice Ai inits.length ci] 26) := by rw [hw1]; exact block_new _ _
  have k0 := cell_of_block (j := 0) hc1 rfl
  have k1 := cell_of_block (j := 1) hc1 rfl
  have k2 := cell_of_block (j := 2) hc1 rfl
  have k3 := cell_of_block (j := 3) hc1 rfl
  have k4 := cell_of_block (j := 4) hc1 rfl
  have k5 := cell_of_block (j := 5) hc1 rfl
  have HB1 := Lib.hid hb1
  have HZ1 := Lib.hid hz1
  have HC1 := Lib.hid hc1
  clear hb1 hz1 hc1 hw1
  go_upto_region 3 with (first
    | (go_at_call 12; refine (H12.out _ HB1.out).mono ?_; rintro ee w2 ⟨t, rfl, hsm, hB2⟩; have HSM := Lib.hid hsm; have HB2 := Lib.hid hB2; clear hsm hB2)
    | (go_at_call 13; refine (sum13 (xs := [(b.length : Int)]) (intRow_at _ _ _ _ _ _ _ rfl (by intro k z hz; match k, hz with | 0, hz => cases hz; rfl) rfl) (by simp) (by simp) (by simp; omega) (by omega) (by omega)).mono ?_; rintro ee w3 ⟨r, rfl, r0, r1, r2, hB3⟩; have HR2 := Lib.hid r2; have HB3 := Lib.hid hB3; clear r2 hB3)
    | (go_at_call 14; refine (awake14 _).mono ?_; rintro ee w4 ⟨rfl, hB4⟩; have HB4 := Lib.hid hB4; clear hB4))
  · go_ret
    have hs1 := HB1.out.size
    have hs2 := HB2.out.size
    have hs3 := HB3.out.size
    have hb2 := HB1.out.trans (HB2.out.mono hs1)
    have hb3 := (hb2.alloc (by omega) (.cells #[.int .i64 b.length] 3)).trans (HB3.out.mono (by simp; omega))
    exact ⟨rfl, hb3.trans (HB4.out.mono (by simp at hs3; omega))⟩
  · have hsm := HSM.out (by assumption)
    have hrl := HR2.out (by omega)
    simp at hrl
    have hb2 : Below w1.heap.size w1 w3 := (HB2.out.alloc HB2.out.size (.cells #[.int .i64 b.length] 3)).trans (HB3.out.mono (by have := HB2.out.size; simp; omega))
    have hsz := hsm.rows
    have hzs := sizesR_length hsz
    have hc2 := (hb2.block w.heap.size (by have := HZ1.out; omega)).trans HC1.out
    have hbw := HB1.out.trans (hb2.mono HB1.out.size)
    have hlt0 : w.heap.size < w3.heap.size := by have := hb2.size; have := HZ1.out; omega
    have HSZ := Lib.hid hsz
    have HB3W := Lib.hid hbw
    have HC2 := Lib.hid hc2
    have k0 := cell_of_block (j := 0) hc2 rfl
    have k1 := cell_of_block (j := 1) hc2 rfl
    have k2 := cell_of_block (j := 2) hc2 rfl
    have k3 := cell_of_block (j := 3) hc2 rfl
    have k4 := cell_of_block (j := 4) hc2 rfl
    have k5 := cell_of_block (j := 5) hc2 rfl
    have hn2 := hzs.1
    clear HB2 HB3 hb2 hzs hc2 hbw hsz H12 HC1 HZ1 HB1 HR2 HSM hsm
    go_upto_region 4 with (go_at_call 15; refine (made15 e As sites.length cs Ar cr Ae es.length ce Ah reach.length ch Ai inits.length ci rows w3 (HR.out.below HB3W.out (Nat.le_refl _)) (by omega)).mono ?_; unfold repV; rintro ee w5 ⟨A5, c5, rfl, hR5, hB5⟩; have HR5 := Lib.hid hR5; have HB5 := Lib.hid hB5; clear hR5 hB5)
    obtain ⟨w6, hw6⟩ : ∃ w6, w6 = w5.alloc (.cells #[.string (U e), .slice As sites.length cs, .slice A5 rows.length c5, .slice Ae es.length ce, .slice Ah reach.length ch, .slice Ai inits.length ci] 32) := ⟨_, rfl⟩
    rw [← hw6]
    have hb6 : Below w5.heap.size w5 w6 := by rw [hw6]; exact (Below.refl _ w5).alloc (Nat.le_refl _) _
    have hc6 : w6.heap[w5.heap.size]? = some (.cells #[.string (U e), .slice As sites.length cs, .slice A5 rows.length c5, .slice Ae es.length ce, .slice Ah reach.length ch, .slice Ai inits.length ci] 32) := by rw [hw6]; exact block_new _ _
    have hbw6 := (HB3W.out.trans (HB5.out.mono HB3W.out.size)).trans (hb6.mono (by have := HB3W.out.size; have := HB5.out.size; omega))
    have hcb6 := (hb6.block w.heap.size (by have := HB5.out.size; omega)).trans ((HB5.out.block w.heap.size hlt0).trans HC2.out)
    have hS6 := HS.out.below hbw6 (Nat.le_refl _)
    have hR6 := HR5.out.below hb6 (Nat.le_refl _)
    have hRr6 := HR.out.below hbw6 (Nat.le_refl _)
    have hE6 := HE.out.below hbw6 (Nat.le_refl _)
    have hh4 : reach.length ≤ ch ∧ StrRow w6 Ah reach ∧ reach.length ≤ 9223372036854775807 := ⟨HH4.out.1, HH4.out.2.2.1.below hbw6 (Nat.le_refl _), by have := HH4.out.1; have := HH4.out.2.1; unfold maxLen at *; omega⟩
    have hh5 : inits.length ≤ ci ∧ StrRow w6 Ai inits ∧ inits.length ≤ 9223372036854775807 := ⟨HH5.out.1, HH5.out.2.2.1.below hbw6 (Nat.le_refl _), by have := HH5.out.1; have := HH5.out.2.1; unfold maxLen at *; omega⟩
    have H17 : Hid (∀ v W, Below w6.heap.size w6 W → Calls Try.prog 17 #[.agg #[.string (U e), .slice As sites.length cs, .slice A5 rows.length c5, .slice Ae es.length ce, .slice Ah reach.length ch, .slice Ai inits.length ci], .string (U v)] W (RowAns W (ptsOf sites rows v))) := Lib.hid (fun v W hB => by
      refine (pointsX e As cs A5 c5 (.slice Ae es.length ce) (.slice Ah reach.length ch) (.slice Ai inits.length ci) rows sites W (hS6.below hB (Nat.le_refl _)) (hR6.below hB (Nat.le_refl _)) HSZ.out v W (Below.refl _ _)).mono ?_
      rintro ee w' ⟨A, c, xs, rfl, g1, g2, g3, g4, g5⟩
      obtain rfl := pts_eq g4
      exact ⟨A, c, rfl, g1, g2, g3, g5⟩)
    have H22 : Hid (∀ W, Below w6.heap.size w6 W → Calls Try.prog 22 #[.agg #[.string (U e), .slice As sites.length cs, .slice A5 rows.length c5, .slice Ae es.length ce, .slice Ah reach.length ch, .slice Ai inits.length ci], .string (U a)] W (RowAns W (ptsOf sites rows (excOf a)))) := Lib.hid (fun W hB => by
      obtain ⟨q1, q2, q3⟩ := sizesR_length HSZ.out
      refine (throws22 e As cs A5 c5 (.slice Ae es.length ce) (.slice Ah reach.length ch) (.slice Ai inits.length ci) rows sites a W (hS6.below hB (Nat.le_refl _)) (hR6.below hB (Nat.le_refl _)) (by omega) (fun j => by have := q3 sites.length (excOf a) j; omega) (fun r hr => by have := q2 r hr; omega) (by omega)).mono ?_
      rintro ee w' ⟨v', zs, rfl, hz, ho, hB'⟩
      obtain ⟨A, c, rfl, hle⟩ := q_slice (q_of_own ho)
      have hx := pts_eq ⟨zs, rfl, hz⟩
      have hr := row_q (q_of_own ho)
      have hl := hz.len HSZ.out
      have hl2 : (zs.map (siteAt sites)).length ≤ 1000000 := by simpa using hl
      rw [hx] at hle hr hl2 ⊢
      exact ⟨A, c, rfl, hle, hl2, hr, hB'⟩)
    have H21 : Hid (∀ v W, Below w6.heap.size w6 W → Calls Try.prog 21 #[.agg #[.string (U e), .slice As sites.length cs, .slice Ar rows.length cr, .slice Ae es.length ce, .slice Ah reach.length ch, .slice Ai inits.length ci], .string (U v)] W (RowAns W (ptsOf sites rows v))) := Lib.hid (fun v W hB => by
      refine (refPointsW e As cs Ar cr Ae ce Ah ch Ai ci rows sites es reach inits W ⟨HLE.out.1, hS6.below hB (Nat.le_refl _), HLE.out.2.1⟩ ⟨HLE.out.2.2.1, hRr6.below hB (Nat.le_refl _)⟩ ⟨HLE.out.2.2.2.1, hE6.below hB (Nat.le_refl _), HLE.out.2.2.2.2⟩
        ⟨hh4.1, hh4.2.1.below hB (Nat.le_refl _), hh4.2.2⟩ ⟨hh5.1, hh5.2.1.below hB (Nat.le_refl _), hh5.2.2⟩ HSZ.out v W (Below.refl _ _)).mono ?_
      rintro ee w' ⟨A, c, xs, rfl, g1, g2, g3, g4, g5⟩
      obtain rfl := pts_eq g4
      exact ⟨A, c, rfl, g1, g2, g3, g5⟩)
    have hwl : (whoOf sites rows a rows).length ≤ 1000000 := Nat.le_trans (whoOf_len _ _ _ _) (by omega)
    have H18 : Hid (∀ W, Below w6.heap.size w6 W → Calls Try.prog 18 #[.agg #[.string (U e), .slice As sites.length cs, .slice A5 rows.length c5, .slice Ae es.length ce, .slice Ah reach.length ch, .slice Ai inits.length ci], .string (U a)] W (RowAns W (whoOf sites rows a rows))) := Lib.hid (fun W hB => by
      refine (whoW e As cs A5 c5 (.slice Ae es.length ce) (.slice Ah reach.length ch) (.slice Ai inits.length ci) rows sites W (hS6.below hB (Nat.le_refl _)) (hR6.below hB (Nat.le_refl _)) HSZ.out a W (Below.refl _ _)).mono ?_
      rintro ee w' ⟨A, c, rfl, g1, g2, g3⟩
      exact ⟨A, c, rfl, g1, hwl, g2, g3⟩)
    have H23 : Hid (∀ W, Below w6.heap.size w6 W → Calls Try.prog 23 #[.agg #[.string (U e), .slice As sites.length cs, .slice Ar rows.length cr, .slice Ae es.length ce, .slice Ah reach.length ch, .slice Ai inits.length ci], .string (U a)] W (RowAns W (whoOf sites rows a rows))) := Lib.hid (fun W hB => by
      refine (refWho23 e As cs Ar cr Ae ce Ah ch Ai ci rows sites es reach inits a W ⟨HLE.out.1, hS6.below hB (Nat.le_refl _), HLE.out.2.1⟩ ⟨HLE.out.2.2.1, hRr6.below hB (Nat.le_refl _)⟩ ⟨HLE.out.2.2.2.1, hE6.below hB (Nat.le_refl _), HLE.out.2.2.2.2⟩
        ⟨hh4.1, hh4.2.1.below hB (Nat.le_refl _), hh4.2.2⟩ ⟨hh5.1, hh5.2.1.below hB (Nat.le_refl _), hh5.2.2⟩ HSZ.out).mono ?_
      rintro ee w' ⟨A, c, rfl, g1, g2, g3⟩
      exact ⟨A, c, rfl, g1, hwl, g2, g3⟩)
    obtain ⟨t1, ht1⟩ : ∃ t, aliasB sites.length rows a b = t := ⟨_, rfl⟩
    have H16 : Hid (∀ W, Below w6.heap.size w6 W → Calls Try.prog 16 #[.agg #[.string (U e), .slice As sites.length cs, .slice A5 rows.length c5, .slice Ae es.length ce, .slice Ah reach.length ch, .slice Ai inits.length ci], .string (U a), .string (U b)] W fun ee w' => ee = .returned (.bool t1) ∧ Below W.heap.size W w') := Lib.hid (fun W hB =>
      aliasW e As cs A5 c5 (.slice Ae es.length ce) (.slice Ah reach.length ch) (.slice Ai inits.length ci) rows sites W (hR6.below hB (Nat.le_refl _)) HSZ.out a b t1 ht1 W (Below.refl _ _))
    have H24 : Hid (∀ W, Below w6.heap.size w6 W → Calls Try.prog 24 #[.agg #[.string (U e), .slice As sites.length cs, .slice Ar rows.length cr, .slice Ae es.length ce, .slice Ah reach.length ch, .slice Ai inits.length ci], .string (U a), .string (U b)] W fun ee w' => ee = .returned (.bool t1) ∧ Below W.heap.size W w') := Lib.hid (fun W hB => by
      rw [← ht1]
      exact refAlias24 e As cs Ar cr (.slice Ae es.length ce) (.slice Ah reach.length ch) (.slice Ai inits.length ci) rows sites a b W ⟨HLE.out.2.2.1, hRr6.below hB (Nat.le_refl _)⟩ HSZ.out)
    have HK := Lib.hid (fun w' (h : Below w6.heap.size w6 w') => keep12 hcb6 hc6 h)
    have hcur := (Below.refl w6.heap.size w6).drew
    have HBW6 := Lib.hid hbw6
    have hexc : Hid (U a ++ ⟨#[35, 101, 120, 99]⟩ = U (excOf a)) := Lib.hid (by unfold excOf; rw [← U_append]; rfl)
    clear hw6 hb6 hc6 hS6 hR6 hRr6 hE6 hh4 hh5 hbw6 hcb6 k0 k1 k2 k3 k4 k5 HB5 HR5 HB3W HS HR HE HH4 HH5 HLE HC2 ht1 hwl
    have hua : ¬ 9223372036854775807 < (U a).size + 4 := by rw [size_U]; omega
    cases t1
    all_goals
      go_region_held3 (fun w' => Below w6.heap.size w6 w' ∧ w'.cell? ⟨w.heap.size, 0, none⟩ = some (.string (U e)) ∧ w'.cell? ⟨w.heap.size, 1, none⟩ = some (.slice As sites.length cs) ∧ w'.cell? ⟨w.heap.size, 2, none⟩ = some (.slice Ar rows.length cr) ∧
          w'.cell? ⟨w.heap.size, 3, none⟩ = some (.slice Ae es.length ce) ∧ w'.cell? ⟨w.heap.size, 4, none⟩ = some (.slice Ah reach.length ch) ∧ w'.cell? ⟨w.heap.size, 5, none⟩ = some (.slice Ai inits.length ci) ∧
          w'.cell? ⟨w5.heap.size, 0, none⟩ = some (.string (U e)) ∧ w'.cell? ⟨w5.heap.size, 1, none⟩ = some (.slice As sites.length cs) ∧ w'.cell? ⟨w5.heap.size, 2, none⟩ = some (.slice A5 rows.length c5) ∧
          w'.cell? ⟨w5.heap.size, 3, none⟩ = some (.slice Ae es.length ce) ∧ w'.cell? ⟨w5.heap.size, 4, none⟩ = some (.slice Ah reach.length ch) ∧ w'.cell? ⟨w5.heap.size, 5, none⟩ = some (.slice Ai inits.length ci))
        (exact HK.out _ hcur)
        (first
          | (go_at_call 17; (with_reducible refine ((H17.out _ _ hcur).mono ?_)); rintro ee w9 ⟨A9, c9, rfl, hle9, hle9', hstr9, hB9⟩; have HLE9 := Lib.hid hle9; have HLL9 := Lib.hid hle9'; have HSTR9 := Lib.hid hstr9; replace hcur := hcur.trans (hB9.mono hcur.size); clear hle9 hle9' hstr9 hB9)
          | (go_at_call 22; (with_reducible refine ((H22.out _ hcur).mono ?_)); rintro ee w9 ⟨A9, c9, rfl, hle9, hle9', hstr9, hB9⟩; have HLE9 := Lib.hid hle9; have HLL9 := Lib.hid hle9'; have HSTR9 := Lib.hid hstr9; replace hcur := hcur.trans (hB9.mono hcur.size); clear hle9 hle9' hstr9 hB9)
          | (go_at_call 18; (with_reducible refine ((H18.out _ hcur).mono ?_)); rintro ee w9 ⟨A9, c9, rfl, hle9, hle9', hstr9, hB9⟩; have HLE9 := Lib.hid hle9; have HLL9 := Lib.hid hle9'; have HSTR9 := Lib.hid hstr9; replace hcur := hcur.trans (hB9.mono hcur.size); clear hle9 hle9' hstr9 hB9)
          | (go_at_call 21; (with_reducible refine ((H21.out _ _ hcur).mono ?_)); rintro ee w10 ⟨A10, c10, rfl, hle10, _, hstr10, hB10⟩; have HLE10 := Lib.hid hle10; have HSTR10 := Lib.hid hstr10; have HSTR9 := Lib.hid (HSTR9.out.below hB10 (Nat.le_refl _)); replace hcur := hcur.trans (hB10.mono hcur.size); clear hle10 hstr10 hB10)
          | (go_at_call 21; rw [hexc.out]; (with_reducible refine ((H21.out _ _ hcur).mono ?_)); rintro ee w10 ⟨A10, c10, rfl, hle10, _, hstr10, hB10⟩; have HLE10 := Lib.hid hle10; have HSTR10 := Lib.hid hstr10; have HSTR9 := Lib.hid (HSTR9.out.below hB10 (Nat.le_refl _)); replace hcur := hcur.trans (hB10.mono hcur.size); clear hle10 hstr10 hB10)
          | (go_at_call 23; (with_reducible refine ((H23.out _ hcur).mono ?_)); rintro ee w10 ⟨A10, c10, rfl, hle10, _, hstr10, hB10⟩; have HLE10 := Lib.hid hle10; have HSTR10 := Lib.hid hstr10; have HSTR9 := Lib.hid (HSTR9.out.below hB10 (Nat.le_refl _)); replace hcur := hcur.trans (hB10.mono hcur.size); clear hle10 hstr10 hB10)
          | (go_at_call 20; (with_reducible refine ((texts20 HSTR9.out HLE9.out HSTR10.out HLE10.out (by have := HLL9.out; omega)).mono ?_)); rintro ee w11 ⟨rfl, hB11⟩; replace hcur := hcur.trans (hB11.mono hcur.size); clear hB11)
          | (go_at_call 16; (with_reducible refine ((H16.out _ hcur).mono ?_)); rintro ee w12 ⟨rfl, hB12⟩; replace hcur := hcur.trans (hB12.mono hcur.size); clear hB12)
          | (go_at_call 24; (with_reducible refine ((H24.out _ hcur).mono ?_)); rintro ee w13 ⟨rfl, hB13⟩; replace hcur := hcur.trans (hB13.mono hcur.size); clear hB13)
          | (go_at_call 14; refine (awake14 _).mono ?_; rintro ee w14 ⟨rfl, hB14⟩; replace hcur := hcur.trans (hB14.mono hcur.size); clear hB14))
      all_goals
        go_wp2
        go_ret
        exact ⟨rfl, HBW6.out.trans (hcur.mono HBW6.out.size)⟩
  · go_ret
    have hs1 := HB1.out.size
    have hs2 := HB2.out.size
    have hb2 := HB1.out.trans (HB2.out.mono hs1)
    exact ⟨rfl, hb2.trans (HB4.out.mono (by omega))⟩
end Go.Proofs.Ytljfknneijmfoaa
