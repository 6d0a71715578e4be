import Derived.Test.YtljfknneijmfoaaE25
import Derived.Test.YtljfknneijmfoaaRch
import Derived.Test.YtljfknneijmfoaaAwk26
namespace Go.Proofs.Ytljfknneijmfoaa
open Go.RowKit Go.Maps Go.WideMaps Go.Lib
open Go.Proofs.YtljfknneijmfoaaW.PrintWords (q_of_own q_slice add_at)
open PQueryAsks

theorem edges25z {A : Option Addr} {c : Nat} {es : List (S × Int × S)} (h1 : es.length ≤ c) (h2 : c ≤ maxLen) (h4 : ∀ e ∈ es, e.1.length ≤ maxLen ∧ e.2.2.length ≤ maxLen ∧ -9223372036854775808 ≤ e.2.1 ∧ e.2.1 ≤ 9223372036854775807) :
    ∃ z, (z ≤ 400 → es.length ≤ 400 ∧ ∀ e ∈ es, e.1.length ≤ 400 ∧ e.2.2.length ≤ 400) ∧ ∀ w, EdgeRow w A es → Calls Try.prog 25 #[.slice A es.length c, .int .i64 400] w fun ee w' => ee = .returned (.int .i64 z) ∧ Below w.heap.size w w' := by
  unfold maxLen at *
  obtain ⟨t2, e2, a2, b2, c2⟩ := edges_m0 es (by omega) (fun e he => ⟨(h4 e he).1, (h4 e he).2.1⟩) es.length (es.length + 20) 0 0 (by omega) (by omega) (by omega) (by omega) (by omega)
  refine ⟨t2, fun hz => ?_, fun w h3 => ?_⟩
  · have h5 := c2 hz
    rw [List.drop_zero] at h5
    exact sizesE_length4 (by omega)
  · have hr := C_of_edgesQ h3 (by omega)
    have := lanternalike_Edges.calls (es.length + 20) A c (es.map toQ50) 400 t2 w (by simpa using hr) (by simpa using h1) (by unfold lanternalike_Edges.f; exact e2)
    simpa only [List.length_map] using this

/-- What Path tells, with Reach beside it. -/
theorem way_reach {base : Nat} {w' : World} {E : Es} {f t : S} {v : Value} {c : Int} (h : WayAns base w' E f t v c) :
    ∃ A cc ps, v = .slice A ps.length cc ∧ ps.length ≤ cc ∧ StrRow w' A ps ∧ ((c = 0 ∧ ∃ d, Geo E t d ps ∧ ps.head? = some f) ∨ (c = 11 ∧ ps = [])) ∧ (c = 0 ↔ Conn E f t) := by
  rcases h with ⟨rfl, ps, d, hG, hh, ho⟩ | ⟨rfl, rfl, hno⟩
  · obtain ⟨A, cc, rfl, hle⟩ := q_slice (q_of_own ho)
    refine ⟨A, cc, ps, rfl, hle, row_q (q_of_own ho), .inl ⟨rfl, d, hG, hh⟩, fun _ => ?_, fun _ => rfl⟩
    match ps, hh with
    | a :: q, hh =>
      cases hh
      obtain ⟨s, hs, hcn⟩ := dist_conn hG.dist
      simp at hs
      subst hs
      exact conn_rev.1 hcn
  · refine ⟨none, 0, [], rfl, Nat.le_refl _, fun k x hx => by simp at hx, .inr ⟨rfl, rfl⟩, ⟨fun h => absurd h (by omega), fun hc => ?_⟩⟩
    obtain ⟨d, hd⟩ := conn_dist (E := rev E) (src := [t]) (x := f) (s := t) (by simp) (conn_rev.2 hc)
    exact absurd hd (hno d)

theorem wrap_small (j : Nat) (h : j ≤ 1000000) : IntKind.i64.wrap (j : Int) = (j : Int) := by rw [IntKind.wrap_i64]; omega

theorem wrap_pred (j : Nat) (h : j ≤ 1000000) : IntKind.i64.wrap ((j : Int) + 1 - 1) = (j : Int) := by
  rw [show (j : Int) + 1 - 1 = (j : Int) by omega]
  exact wrap_small j h

theorem drawnBelow (w : World) (n : Nat) : Below w.heap.size w (w.drewN n) := (show Go.Proofs.YtljfknneijmfoaaW.PrintWords.Drawn0 w (w.drewN n) from ⟨⟨n, rfl⟩⟩).below

/-- A shortest way is no longer than the edges. -/
theorem geo_le {es : List (S × Int × S)} {t : S} {d : Nat} {p : List S} (h : Geo (ends es) t d p) : d ≤ es.length := by
  have hn : p.Nodup := List.pairwise_iff_getElem.2 fun i j hi hj hij => h.ne i j hi hj (by omega)
  have hl := h.length
  have h1 := nodup_le p.dropLast ((ends es).map (·.1)) (hn.sublist (List.dropLast_sublist p)) fun x hx => by
    obtain ⟨i, hi, rfl⟩ := List.mem_iff_getElem.1 hx
    rw [List.length_dropLast] at hi
    rw [List.getElem_dropLast]
    exact List.mem_map.2 ⟨_, h.edge i (by omega), rfl⟩
  rw [List.length_dropLast, List.length_map] at h1
  have h2 : (ends es).length = es.length := by unfold ends; rw [List.length_map]
  omega

theorem from_row (w : World) (f : S) : StrRow (w.alloc (.cells #[.string (U f)] 9)) (some ⟨w.heap.size, 0, none⟩) [f] := by
  intro k x hx
  have hk : k < 1 := (List.getElem?_eq_some_iff.1 hx).1
  have : k = 0 := by omega
  subst this
  cases hx
  exact ⟨_, rfl, cell_of_block (j := 0) (heap_alloc_new w _) rfl⟩

set_option maxRecDepth 100000 in
set_option maxHeartbeats 4000000 in
theorem graphWays6 (A : Option Addr) (cap : Nat) (es : List (S × Int × S)) (f t : S) (w : World)
    (h3 : es.length ≤ cap ∧ cap ≤ maxLen ∧ EdgeRow w A es ∧ ∀ e ∈ es, e.1.length ≤ maxLen ∧ e.2.2.length ≤ maxLen ∧ -9223372036854775808 ≤ e.2.1 ∧ e.2.1 ≤ 9223372036854775807)
    (hf : f.length ≤ 9223372036854775807) (ht : t.length ≤ 9223372036854775807) :
    Calls Try.prog 6 #[.slice A es.length cap, .string (U f), .string (U t)] w fun ee w' => ee = .returned (.bool true) ∧ Below w.heap.size w w' := by
  obtain ⟨z, hz, h25⟩ := edges25z (A := A) h3.1 h3.2.1 h3.2.2.2
  have H25 := Lib.hid (h25 w h3.2.2.1)
  have HE := Lib.hid h3.2.2.1
  have HC := Lib.hid h3.1
  clear h3 h25
  have szf : ((U f).size : Int) = f.length := by rw [size_U]
  have szt : ((U t).size : Int) = t.length := by rw [size_U]
  by_cases hok : z ≤ 400 ∧ f.length ≤ 50 ∧ t.length ≤ 50
  · obtain ⟨hz4, hlf, hlt⟩ := hok
    have HZ := Lib.hid (hz hz4)
    clear hz
    go_enter Try.func6, Try.ntmps6
    go_upto_region 3 with (go_at_call 25; refine H25.out.mono ?_; rintro ee w1 ⟨rfl, hB1⟩; have HB1 := Lib.hid hB1; clear hB1)
    go_upto_region 4 with (go_at_call 27; refine (path27' A cap es f t _ (HE.out.below HB1.out (Nat.le_refl _)) (by have := HZ.out.1; omega) HC.out (fun e he => by have := HZ.out.2 e he; omega) (by omega) (by omega)).mono ?_; rintro ee w2 ⟨v, c, rfl, hWA, hB2⟩; obtain ⟨A2, c2, ps, rfl, hle2, hr2, hcase, hcn⟩ := way_reach hWA; have HLE2 := Lib.hid hle2; have HR2 := Lib.hid hr2; have HCASE := Lib.hid hcase; have HCN := Lib.hid hcn; have HBW2 := Lib.hid (HB1.out.trans (hB2.mono HB1.out.size)); clear hB2 hle2 hr2 hcase hcn hWA)
    have HFR := Lib.hid (from_row w2 f)
    have ha2 : Below w2.heap.size w2 (w2.alloc (.cells #[.string (U f)] 9)) := (Below.refl _ w2).alloc (Nat.le_refl _) _
    have HA2 := Lib.hid ha2
    have za2 := ha2.size
    have HBA := Lib.hid (HBW2.out.trans (ha2.mono HBW2.out.size))
    clear ha2
    go_upto_region 5 with (go_at_call 29; refine (reach29 A cap es (some ⟨w2.heap.size, 0, none⟩) 1 [f] (w2.alloc (.cells #[.string (U f)] 9)) (HE.out.below HBA.out (Nat.le_refl _)) (by have := HZ.out.1; omega) (fun e he => by have := HZ.out.2 e he; omega) HFR.out (by simp) (by simp; omega)).mono ?_; rintro ee w3 ⟨A3, c3, rr, rfl, hle3, hl3, hr3, hR3, hB3⟩; have HLE3 := Lib.hid hle3; have HL3 := Lib.hid hl3; have HR3 := Lib.hid hr3; have HIR := Lib.hid hR3; have HBW3 := Lib.hid (HBA.out.trans (hB3.mono HBA.out.size)); have HP3 := Lib.hid ((HR2.out.below HA2.out (Nat.le_refl _)).below hB3 (Nat.le_refl _)); clear hle3 hl3 hr3 hR3 hB3)
    have hmr : ∀ x, rr.contains x = true ↔ Conn (ends es) f x := by
      intro x
      rw [List.contains_iff_mem, HIR.out.2 x]
      constructor
      · rintro ⟨s, hs, hc⟩
        simp at hs
        subst hs
        exact hc
      · exact fun hc => ⟨f, by simp, hc⟩
    have HMR := Lib.hid hmr
    have hm5 : t ∈ rr ↔ c = 0 := by
      rw [← List.contains_iff_mem, hmr t]
      exact HCN.out.symm
    have hb5 : ((c == 0) == decide (t ∈ rr)) = true := by
      by_cases hc : c = 0
      · simp [hc, hm5]
      · simp [hc, hm5]
    have HM5 := Lib.hid hm5
    clear hm5
    clear hmr
    go_upto_region 7 with (go_at_call 19; refine (has19 HR3.out HLE3.out (by have := HL3.out; omega) t).mono ?_; rintro ee w4 ⟨rfl, hB4⟩; have HB4 := Lib.hid hB4; clear hB4)
    clear hb5
    have HBW4 := Lib.hid (HBW3.out.trans (HB4.out.mono HBW3.out.size))
    have HE4 := Lib.hid (HE.out.below HBW4.out (Nat.le_refl _))
    have HR4 := Lib.hid (HR3.out.below HB4.out (Nat.le_refl _))
    have HP4 := Lib.hid (HP3.out.below HB4.out (Nat.le_refl _))
    have hn4 := HZ.out.1
    clear HP3 HR3 HBA HA2 HFR HR2 HBW2 HB1 H25 HIR HE
    go_wp2
    go_loopw [10] (fun i wr => ∃ k : Nat, k ≤ es.length ∧ i = .int .i64 k ∧ Below w4.heap.size w4 wr) (fun i _ => es.length - (intOf i).toNat)
    case atStart => exact ⟨0, Nat.zero_le _, rfl, Below.refl _ _⟩
    case round =>
      obtain ⟨k, hk, rfl, hbk⟩ := hrel
      by_cases hlt2 : k < es.length
      · obtain ⟨e, he⟩ : ∃ e, es[k]? = some e := ⟨_, List.getElem?_eq_getElem hlt2⟩
        have hkb : k ≤ 1000000 := by omega
        obtain ⟨ad, rfl, e0, e1, e2⟩ := HE4.out.below hbk (Nat.le_refl _) k e he
        have hsz := HZ.out.2 e (List.mem_of_getElem? he)
        have hed : (e.1, e.2.2) ∈ ends es := List.mem_map.2 ⟨e, List.mem_of_getElem? he, rfl⟩
        have HRK := Lib.hid (HR4.out.below hbk (Nat.le_refl _))
        have l2 := World.block_lt_of_cell? wr _ e2
        have hcur := hbk
        have tok : True := trivial
        have hstep : Hid (e.1 ∈ rr → e.2.2 ∈ rr) := Lib.hid (fun h => List.contains_iff_mem.1 ((HMR.out _).2 (((HMR.out _).1 (List.contains_iff_mem.2 h)).trans (.edge hed))))
        clear he hed
        by_cases hin : e.1 ∈ rr
        · have hin2 := hstep.out hin
          go_wp2_with (first
            | (go_at_call 19; have _t := tok; refine (has19 HRK.out HLE3.out (by have := HL3.out; omega) e.1).mono ?_; rintro ee wy ⟨rfl, hBy⟩; have e2y := (hBy.cell l2).trans e2; have HRY := Lib.hid (HRK.out.below hBy (Nat.le_refl _)); replace hcur := hcur.trans (hBy.mono hcur.size); clear tok hBy)
            | (go_at_call 19; refine (has19 HRY.out HLE3.out (by have := HL3.out; omega) e.2.2).mono ?_; rintro ee wz ⟨rfl, hBz⟩; replace hcur := hcur.trans (hBz.mono hcur.size); clear hBz))
          go_roundw
          case measure => simp [intOf]; omega
          case rel => exact ⟨k + 1, hlt2, by go_num, hcur⟩
        · go_wp2_with (first
            | (go_at_call 19; have _t := tok; refine (has19 HRK.out HLE3.out (by have := HL3.out; omega) e.1).mono ?_; rintro ee wy ⟨rfl, hBy⟩; replace hcur := hcur.trans (hBy.mono hcur.size); clear tok hBy))
          go_roundw
          case measure => simp [intOf]; omega
          case rel => exact ⟨k + 1, hlt2, by go_num, hcur⟩
      · have hke : k = es.length := by omega
        subst hke
        have HBK := Lib.hid hbk
        have HPK := Lib.hid (HP4.out.below hbk (Nat.le_refl _))
        have HBWK := Lib.hid (HBW4.out.trans (hbk.mono HBW4.out.size))
        have HEK := Lib.hid (HE4.out.below hbk (Nat.le_refl _))
        clear hbk HR4 HMR HM5
        rcases HCASE.out with ⟨rfl, d, hG, hh⟩ | ⟨rfl, rfl⟩
        · have hd := geo_le hG
          have hlen := hG.length
          have h0 : ps[0]? = some f := by
            match ps, hh with
            | a :: q, hh => simpa using hh
          have hL : ps[d]? = some t := by
            have := hG.last
            rw [List.getLast?_eq_getElem?, hlen] at this
            simpa using this
          obtain ⟨ad, rfl, hc0⟩ := HPK.out 0 f h0
          obtain ⟨_, e, hcL⟩ := HPK.out d t hL
          cases e
          have HG := Lib.hid hG
          have HLEN := Lib.hid hlen
          have hc00 : wr.cell? ad = some (.string (U f)) := by
            have h := hc0
            simp [Addr.add] at h
            exact h
          have hbf := beq_U_true (rfl : f = f)
          have hbt := beq_U_true (rfl : t = t)
          clear hG hh hc0 h0 hL HCASE HCN
          have hd0 : (((d : Int) + 1) == 0) = false := by rw [beq_eq_false_iff_ne]; omega
          rw [hlen]
          try rw [show ((0 : Int) == 0) = true from rfl]
          go_upto_region 16 with (fail)
          obtain ⟨wo, rfl⟩ : ∃ wo : World, wo = wr := ⟨_, rfl⟩
          have hle2 := HLE2.out
          clear hc00 hbf hbt hcL HP4 HE4 HBK HBW4 HBW3 HLE2
          go_wp2
          go_loopw [11] (fun i wq => ∃ j : Nat, j ≤ d ∧ i = .int .i64 ((j + 1 : Nat) : Int) ∧ Below wo.heap.size wo wq) (fun i _ => d + 1 - (intOf i).toNat)
          case atStart => exact ⟨0, Nat.zero_le _, rfl, Below.refl _ _⟩
          case round =>
            obtain ⟨j, hj, rfl, hbq⟩ := hrel
            have HBQ := Lib.hid hbq
            by_cases hjd : j < d
            · obtain ⟨x, hx⟩ : ∃ x, ps[j]? = some x := ⟨_, List.getElem?_eq_getElem (by omega)⟩
              obtain ⟨y, hy⟩ : ∃ y, ps[j + 1]? = some y := ⟨_, List.getElem?_eq_getElem (by omega)⟩
              have hxe : ps[j]'(by omega) = x := (List.getElem?_eq_some_iff.1 hx).2
              have hye : ps[j + 1]'(by omega) = y := (List.getElem?_eq_some_iff.1 hy).2
              have HXY : Hid (∃ e ∈ es, e.1 = x ∧ e.2.2 = y) := Lib.hid (by
                have h := HG.out.edge j (by omega)
                rw [hxe, hye] at h
                obtain ⟨e, he, h2⟩ := List.mem_map.1 h
                injection h2 with h2 h3
                exact ⟨e, he, h2, h3⟩)
              have HNI : Hid ((ps.take (j + 1)).contains y = false) := Lib.hid (by
                rw [← Bool.not_eq_true, List.contains_iff_mem]
                intro hin
                obtain ⟨i, hi, e⟩ := List.mem_iff_getElem.1 hin
                rw [List.length_take] at hi
                rw [List.getElem_take] at e
                exact HG.out.ne i (j + 1) (by omega) (by omega) (by omega) (by rw [e, hye]))
              have HX := Lib.hid hx
              have HY := Lib.hid hy
              clear hx hy hxe hye hbq
              have hjb : j ≤ 1000000 := by omega
              obtain ⟨wq, rfl⟩ : ∃ wq : World, wq = wr := ⟨_, rfl⟩
              go_wp2
              go_loopw [12, 13] (fun s12 i wi => ∃ (q : Nat) (b : Bool), q ≤ es.length ∧ i = .int .i64 q ∧ s12 = .bool b ∧ (b = true ↔ ∃ e ∈ es.take q, e.1 = x ∧ e.2.2 = y) ∧ Below wq.heap.size wq wi) (fun _ i _ => es.length - (intOf i).toNat)
              case atStart => exact ⟨0, false, Nat.zero_le _, rfl, rfl, by simp, Below.refl _ _⟩
              case round =>
                obtain ⟨q, b, hq, rfl, rfl, hb, hbi⟩ := hrel
                have HB := Lib.hid hb
                have HBI := Lib.hid (HBQ.out.trans (hbi.mono HBQ.out.size))
                have HBI0 := Lib.hid hbi
                clear hb hbi
                obtain ⟨_, ex, cx⟩ := HPK.out.below HBI.out (Nat.le_refl _) j x HX.out
                cases ex
                obtain ⟨_, ey, cy⟩ := HPK.out.below HBI.out (Nat.le_refl _) (j + 1) y HY.out
                cases ey
                by_cases hqe : q < es.length
                · obtain ⟨e, he⟩ : ∃ e, es[q]? = some e := ⟨_, List.getElem?_eq_getElem hqe⟩
                  obtain ⟨ae, rfl, e0, e1, e2⟩ := HEK.out.below HBI.out (Nat.le_refl _) q e he
                  have hqb : q ≤ 1000000 := by omega
                  have HT : Hid (∀ b' : Bool, (b' = true ↔ b = true ∨ (e.1 = x ∧ e.2.2 = y)) → (b' = true ↔ ∃ e ∈ es.take (q + 1), e.1 = x ∧ e.2.2 = y)) := Lib.hid (fun b' h => by
                    rw [h, HB.out, List.take_add_one, he]
                    simp only [Option.toList_some, List.mem_append, List.mem_singleton]
                    constructor
                    · rintro (⟨u, hu, h1⟩ | h1)
                      · exact ⟨u, .inl hu, h1⟩
                      · exact ⟨e, .inr rfl, h1⟩
                    · rintro ⟨u, hu | rfl, h1⟩
                      · exact .inl ⟨u, hu, h1⟩
                      · exact .inr h1)
                  clear he
                  have i1 : (0 : Int) ≤ (q : Int) := by omega
                  have i2 : (q : Int) < (es.length : Int) := by omega
                  have i3 : (0 : Int) ≤ (j : Int) := by omega
                  have i4 : (j : Int) < (d : Int) + 1 := by omega
                  have i5 : (0 : Int) ≤ (j : Int) + 1 := by omega
                  have i6 : (j : Int) + 1 < (d : Int) + 1 := by omega
                  have iw : IntKind.i64.wrap ((j : Int) + 1 - 1) = (j : Int) := wrap_pred j hjb
                  have iw3 := wrap_small j hjb
                  have cyz : wr.cell? ⟨ad.block, ad.off + (j + 1), none⟩ = some (.string (U y)) := by
                    have h := cy
                    simp [Addr.add] at h
                    exact h
                  cases b with
                  | true =>
                    go_upto_region 23 with (fail)
                    go_quiet (fail)
                    go_wp2
                    go_roundw
                    case measure => simp [intOf]; omega
                    case rel => exact ⟨q + 1, true, hqe, by go_num, rfl, HT.out true (by simp), HBI0.out.trans ((drawnBelow _ _).mono HBI0.out.size)⟩
                  | false =>
                    by_cases h1 : e.1 = x
                    · have hb1 := beq_U_true h1
                      by_cases h2 : e.2.2 = y
                      · have hb2 := beq_U_true h2
                        have HT2 := Lib.hid (HT.out true (by simp [h1, h2]))
                        clear h1 h2
                        go_upto_region 23 with (fail)
                        go_quiet (fail)
                        go_wp2
                        go_roundw
                        case measure => simp [intOf]; omega
                        case rel => exact ⟨q + 1, true, hqe, by go_num, rfl, HT2.out, HBI0.out.trans ((drawnBelow _ _).mono HBI0.out.size)⟩
                      · have hb2 := beq_U_false h2
                        have HT2 := Lib.hid (HT.out false (by simp [h2]))
                        clear h1 h2
                        go_upto_region 23 with (fail)
                        go_quiet (fail)
                        go_wp2
                        go_roundw
                        case measure => simp [intOf]; omega
                        case rel => exact ⟨q + 1, false, hqe, by go_num, rfl, HT2.out, HBI0.out.trans ((drawnBelow _ _).mono HBI0.out.size)⟩
                    · have hb1 := beq_U_false h1
                      have HT2 := Lib.hid (HT.out false (by simp [h1]))
                      clear h1
                      go_upto_region 23 with (fail)
                      go_quiet (fail)
                      go_wp2
                      go_roundw
                      case measure => simp [intOf]; omega
                      case rel => exact ⟨q + 1, false, hqe, by go_num, rfl, HT2.out, HBI0.out.trans ((drawnBelow _ _).mono HBI0.out.size)⟩
                · have hqe2 : q = es.length := by omega
                  subst hqe2
                  have hbt : b = true := HB.out.2 (by rw [List.take_length]; exact HXY.out)
                  subst hbt
                  have ly := World.block_lt_of_cell? _ _ cy
                  have hlt : (ps.take (j + 1)).length = j + 1 := by rw [List.length_take]; omega
                  have hpt : StrRow wo (some ad) (ps.take (j + 1)) := fun i u hu => by
                    have hi : i < j + 1 := by
                      have := (List.getElem?_eq_some_iff.1 hu).1
                      omega
                    rw [List.getElem?_take_of_lt hi] at hu
                    exact HPK.out i u hu
                  obtain ⟨wi, rfl⟩ : ∃ wi : World, wi = wr := ⟨_, rfl⟩
                  have H19 : Hid (∀ W, Below wi.heap.size wi W → Calls Try.prog 19 #[.slice (some ad) (j + 1) c2, .string (U y)] W fun e w' => e = .returned (.bool false) ∧ Below W.heap.size W w') := Lib.hid (fun W hW => by
                    have h := has19 (c := c2) (hpt.below (HBI.out.trans (hW.mono HBI.out.size)) (Nat.le_refl _)) (by omega) (by omega) y
                    rw [hlt, HNI.out] at h
                    exact h)
                  have cyz : wi.cell? ⟨ad.block, ad.off + (j + 1), none⟩ = some (.string (U y)) := by
                    have h := cy
                    simp [Addr.add] at h
                    exact h
                  have lyz := World.block_lt_of_cell? _ _ cyz
                  have HK := Lib.hid (fun w' (h : Below wi.heap.size wi w') => (h.cell lyz).trans cyz)
                  have hcur := (Below.refl wi.heap.size wi).drew
                  have i3 : (0 : Int) ≤ (j : Int) := by omega
                  have i5 : (0 : Int) ≤ (j : Int) + 1 := by omega
                  have i6 : (j : Int) + 1 < (d : Int) + 1 := by omega
                  have i7 : (j : Int) + 1 ≤ (c2 : Int) := by omega
                  have i8 : j + 1 ≤ c2 := by omega
                  have i9 : (d : Int) + 1 ≤ (c2 : Int) := by omega
                  clear cy cyz lyz ly hpt hlt cx HB
                  go_upto_region 24 with (fail)
                  go_region_held3 (fun w' => Below wi.heap.size wi w' ∧ w'.cell? ⟨ad.block, ad.off + (j + 1), none⟩ = some (.string (U y)))
                    (exact ⟨hcur, HK.out _ hcur⟩)
                    (first | (go_at_call 19; (with_reducible refine ((H19.out _ hcur).mono ?_)); rintro ee w9 ⟨rfl, hB9⟩; replace hcur := hcur.trans (hB9.mono hcur.size); clear hB9))
                  all_goals
                    go_wp2
                    go_roundw
                    case measure => simp [intOf]; omega
                    case rel => exact ⟨j + 1, hjd, by first | go_num | simp, HBI.out.trans (hcur.mono HBI.out.size)⟩
            · have hje : j = d := by omega
              subst hje
              go_wp2_with (go_at_call 26; refine (awake26 _).mono ?_; rintro ee wy ⟨rfl, hBy⟩; have HBY := Lib.hid hBy; clear hBy)
              go_ret
              have hs := HBWK.out.size
              have hs2 := HBQ.out.size
              exact ⟨rfl, HBWK.out.trans ((HBQ.out.mono hs).trans (HBY.out.mono (by omega)))⟩
        · go_wp2_with (go_at_call 26; refine (awake26 _).mono ?_; rintro ee wy ⟨rfl, hBy⟩; have HBY := Lib.hid hBy; clear hBy)
          go_ret
          exact ⟨rfl, HBWK.out.trans (HBY.out.mono HBWK.out.size)⟩
  · clear hz
    have HOK := Lib.hid hok
    clear hok
    by_cases hz4 : z ≤ 400
    · by_cases hlf : f.length ≤ 50
      · have hlt : ¬ t.length ≤ 50 := fun h => HOK.out ⟨hz4, hlf, h⟩
        go_enter Try.func6, Try.ntmps6
        go_wp2_with (first
          | (go_at_call 25; refine H25.out.mono ?_; rintro ee w1 ⟨rfl, hB1⟩; have hcur := hB1; clear hB1)
          | (go_at_call 26; refine (awake26 _).mono ?_; rintro ee w2 ⟨rfl, hB2⟩; replace hcur := hcur.trans (hB2.mono hcur.size); clear hB2))
        all_goals
          go_ret
          exact ⟨rfl, hcur⟩
      · go_enter Try.func6, Try.ntmps6
        go_wp2_with (first
          | (go_at_call 25; refine H25.out.mono ?_; rintro ee w1 ⟨rfl, hB1⟩; have hcur := hB1; clear hB1)
          | (go_at_call 26; refine (awake26 _).mono ?_; rintro ee w2 ⟨rfl, hB2⟩; replace hcur := hcur.trans (hB2.mono hcur.size); clear hB2))
        all_goals
          go_ret
          exact ⟨rfl, hcur⟩
    · go_enter Try.func6, Try.ntmps6
      go_wp2_with (first
        | (go_at_call 25; refine H25.out.mono ?_; rintro ee w1 ⟨rfl, hB1⟩; have hcur := hB1; clear hB1)
        | (go_at_call 26; refine (awake26 _).mono ?_; rintro ee w2 ⟨rfl, hB2⟩; replace hcur := hcur.trans (hB2.mono hcur.size); clear hB2))
      all_goals
        go_ret
        exact ⟨rfl, hcur⟩
end Go.Proofs.Ytljfknneijmfoaa
