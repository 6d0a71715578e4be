import Derived.Test.YtljfknneijmfoaaGWa
import Derived.Test.YtljfknneijmfoaaGRiP
namespace Go.Proofs.Ytljfknneijmfoaa
open Go.RowKit Go.Maps Go.WideMaps Go.Lib
open Go.Proofs.YtljfknneijmfoaaW.PrintWords (q_of_own q_slice add_at)

theorem count_step {gs : List (List S)} {s : S} {q : Nat} {g : List S} (hg : gs[q]? = some g) : ((gs.take (q + 1)).filter fun g => g.contains s).length = ((gs.take q).filter fun g => g.contains s).length + (if g.contains s = true then 1 else 0) := by
  rw [List.take_add_one, hg, List.filter_append, List.length_append]
  simp only [Option.toList_some, List.filter_cons, List.filter_nil]
  split <;> rfl

theorem ring_len {E : Es} {g xs : List S} (r : IsRing E g) (hX : IsNodes E xs) : g.length ≤ xs.length :=
  nodup_le g xs r.1.nodup fun x hx => (hX.2 x).2 (r.cyc hx).node

theorem RowsRow.keep {w w' : World} {A : Option Addr} {gs : List (List S)} (h : RowsRow w A gs) (hB : Below w.heap.size w w') : RowsRow w' A gs := h.below hB (Nat.le_refl _)

theorem reach_has {E : Es} {f t : S} {rr : List S} (h : IsReach E [f] rr) (b : Bool) (hb : b = true ↔ Conn E f t) : rr.contains t = b := by
  rw [Bool.eq_iff_iff, List.contains_iff_mem, h.2 t, hb]
  constructor
  · rintro ⟨s, hs, hc⟩
    simp at hs
    subst hs
    exact hc
  · exact fun hc => ⟨f, by simp, hc⟩

theorem has19b {w : World} {A : Option Addr} {c : Nat} {l : List S} (h : StrRow w A l) (hc : l.length ≤ c) (hl : l.length ≤ 1000000) (s : S) (b : Bool) (hb : l.contains s = b) :
    Calls Try.prog 19 #[.slice A l.length c, .string (U s)] w fun e w' => e = .returned (.bool b) ∧ Below w.heap.size w w' := by
  subst hb
  exact has19 h hc hl s

theorem node_size {es : List (S × Int × S)} (hz : ∀ e ∈ es, e.1.length ≤ 400 ∧ e.2.2.length ≤ 400) {x : S} (h : ∃ y, (x, y) ∈ ends es ∨ (y, x) ∈ ends es) : x.length ≤ 100000 := by
  obtain ⟨y, h | h⟩ := h
  · obtain ⟨e, he, q⟩ := List.mem_map.1 h
    injection q with q1 q2
    subst q1
    have := (hz e he).1
    omega
  · obtain ⟨e, he, q⟩ := List.mem_map.1 h
    injection q with q1 q2
    subst q2
    have := (hz e he).2
    omega

/-- Reach from one, whose row has just been made. -/
theorem reach_one {A : Option Addr} {cap : Nat} {es : List (S × Int × S)} {w : World} (hE : EdgeRow w A es) (hn : es.length ≤ 100000) (hs : ∀ e ∈ es, e.1.length ≤ 100000 ∧ e.2.2.length ≤ 100000) (f : S) (hf : f.length ≤ 100000) (W : World) (a : Addr) (hB : Below w.heap.size w W) (hR : StrRow W (some a) [f]) :
    Calls Try.prog 29 #[.slice A es.length cap, .slice (some a) 1 1] W fun e w' => ∃ A' c' out, e = .returned (.slice A' out.length c') ∧ out.length ≤ c' ∧ out.length ≤ 300000 ∧ StrRow w' A' out ∧ IsReach (ends es) [f] out ∧ Below w.heap.size w w' :=
  (reach29 A cap es (some a) 1 [f] W (hE.below hB (Nat.le_refl _)) hn hs hR (by simp) (by simpa using hf)).mono fun e w' ⟨A', c', out, h1, h2, h3, h4, h5, h6⟩ => ⟨A', c', out, h1, h2, h3, h4, h5, hB.trans (h6.mono hB.size)⟩

theorem below_made (w : World) (o : Obj) : Below w.heap.size w (w.alloc o).drew := ((Below.refl _ w).alloc (Nat.le_refl _) o).drew

theorem less_U' (x y : S) : Op.bytesLess (U x).toList (U y).toList = decide (x < y) := by rw [toList_U, toList_U, Go.Proofs.bytesLess_eq]

theorem row_made (w : World) (f : S) : StrRow (w.alloc (.cells #[.string (U f)] 9)).drew (some ⟨w.heap.size, 0, none⟩) [f] := (from_row w f).below (Below.refl _ _).drew (Nat.le_refl _)

set_option maxRecDepth 100000 in
set_option maxHeartbeats 4000000 in
theorem graphRings7 (A : Option Addr) (cap : Nat) (es : List (S × Int × S)) (w : World)
    (h3 : es.length ≤ cap ∧ cap ≤ maxLen ∧ EdgeRow w A es ∧ ∀ e ∈ es, e.1.length ≤ maxLen ∧ e.2.2.length ≤ maxLen ∧ -9223372036854775808 ≤ e.2.1 ∧ e.2.1 ≤ 9223372036854775807) :
    Calls Try.prog 7 #[.slice A es.length cap] w fun ee w' => ee = .returned (.bool true) ∧ Below w.heap.size w w' := by
  obtain ⟨z, hz, h25⟩ := edges25z (A := A) h3.1 h3.2.1 h3.2.2.2
  have H25 := Lib.hid (h25 w h3.2.2.1)
  have HE := Lib.hid h3.2.2.1
  have HC := Lib.hid h3.1
  clear h3 h25
  by_cases hz4 : z ≤ 400
  · have HZ := Lib.hid (hz hz4)
    clear hz
    go_enter Try.func7, Try.ntmps7
    go_upto_region 3 with (go_at_call 25; refine H25.out.mono ?_; rintro ee w1 ⟨rfl, hB1⟩; have HB1 := Lib.hid hB1; clear hB1)
    go_upto_region 4 with (go_at_call 30; refine (rings30 A cap es _ (HE.out.below HB1.out (Nat.le_refl _)) (by have := HZ.out.1; omega) (fun e he => by have := HZ.out.2 e he; omega)).mono ?_; rintro ee w2 ⟨A2, c2, gs, rfl, hle2, hl2, hR2, hI, hB2⟩; have HLE2 := Lib.hid hle2; have HL2 := Lib.hid hl2; have HR2 := Lib.hid hR2; have HI := Lib.hid hI; have HBW2 := Lib.hid (HB1.out.trans (hB2.mono HB1.out.size)); clear hle2 hl2 hR2 hI hB2)
    go_upto_region 5 with (go_at_call 31; refine (nodes31 A cap es _ (HE.out.below HBW2.out (Nat.le_refl _)) (by have := HZ.out.1; omega) (fun e he => by have := HZ.out.2 e he; omega)).mono ?_; rintro ee w3 ⟨A3, c3, xs, rfl, hle3, hl3, hR3, hX, hB3⟩; have HLE3 := Lib.hid hle3; have HL3 := Lib.hid hl3; have HR3 := Lib.hid hR3; have HX := Lib.hid hX; have HBW3 := Lib.hid (HBW2.out.trans (hB3.mono HBW2.out.size)); have HG3 := Lib.hid (HR2.out.below hB3 (Nat.le_refl _)); clear hle3 hl3 hR3 hX hB3)
    have HE3 := Lib.hid (HE.out.below HBW3.out (Nat.le_refl _))
    clear HR2 HB1 H25 HBW2 HE
    go_wp2
    go_loopw [5] (fun i wr => ∃ k : Nat, k ≤ xs.length ∧ i = .int .i64 k ∧ Below w3.heap.size w3 wr) (fun i _ => xs.length - (intOf i).toNat)
    case atStart => exact ⟨0, Nat.zero_le _, rfl, Below.refl _ _⟩
    case round =>
      obtain ⟨k, hk, rfl, hbk⟩ := hrel
      have HBK := Lib.hid hbk
      clear hbk
      by_cases hlt : k < xs.length
      · obtain ⟨s, hs⟩ : ∃ s, xs[k]? = some s := ⟨_, List.getElem?_eq_getElem hlt⟩
        have HS := Lib.hid hs
        have hkb : k ≤ 1000000 := by have := HL3.out; omega
        have hcount := Lib.hid (ring_count HI.out HX.out s)
        clear hs
        obtain ⟨wq, rfl⟩ : ∃ wq : World, wq = wr := ⟨_, rfl⟩
        go_wp2
        go_loopw [6, 7] (fun s6 i wi => ∃ q : Nat, q ≤ gs.length ∧ i = .int .i64 q ∧ s6 = .int .i64 (((gs.take q).filter fun g => g.contains s).length : Nat) ∧ Below wq.heap.size wq wi) (fun _ i _ => gs.length - (intOf i).toNat)
        case atStart => exact ⟨0, Nat.zero_le _, rfl, by simp, Below.refl _ _⟩
        case round =>
          obtain ⟨q, hq, rfl, rfl, hbi⟩ := hrel
          have HBI := Lib.hid (HBK.out.trans (hbi.mono HBK.out.size))
          have HBI0 := Lib.hid hbi
          clear hbi
          by_cases hqt : q < gs.length
          · obtain ⟨g, hg⟩ : ∃ g, gs[q]? = some g := ⟨_, List.getElem?_eq_getElem hqt⟩
            have hgl := ring_len ((HI.out.2 g).1 (List.mem_of_getElem? hg)) HX.out
            obtain ⟨ag, Ag, cg, rfl, cgc, hleg, hrowg⟩ := HG3.out.keep HBI.out q g hg
            obtain ⟨ax, rfl, cs⟩ := HR3.out.below HBI.out (Nat.le_refl _) k s HS.out
            have hqb : q ≤ 1000000 := by have := HL2.out; omega
            have hl3 := HL3.out
            have i1 : (0 : Int) ≤ (q : Int) := by omega
            have i2 : (q : Int) < (gs.length : Int) := by omega
            have i3 : (0 : Int) ≤ (k : Int) := by omega
            have i4 : (k : Int) < (xs.length : Int) := by omega
            obtain ⟨wi, rfl⟩ : ∃ wi : World, wi = wr := ⟨_, rfl⟩
            obtain ⟨n, hn⟩ : ∃ n, n = ((gs.take q).filter fun g => g.contains s).length := ⟨_, rfl⟩
            rw [← hn]
            have hnb : n ≤ 1000000 := by rw [hn]; exact Nat.le_trans (List.length_filter_le _ _) (by rw [List.length_take]; omega)
            have l1 := World.block_lt_of_cell? _ _ cgc
            have l2 := World.block_lt_of_cell? _ _ cs
            have HK := Lib.hid (fun w' (h : Below wi.heap.size wi w') => (⟨h, (h.cell l1).trans cgc, (h.cell l2).trans cs⟩ : Below wi.heap.size wi w' ∧ w'.cell? (ag.add q) = some (.slice Ag g.length cg) ∧ w'.cell? (ax.add k) = some (.string (U s))))
            have hcur := (Below.refl wi.heap.size wi).drew
            cases hb : g.contains s with
            | true =>
              have hcnt : ((gs.take (q + 1)).filter fun g => g.contains s).length = n + 1 := by rw [count_step hg, hn, hb]; rfl
              have H19 : Hid (∀ W, Below wi.heap.size wi W → Calls Try.prog 19 #[.slice Ag g.length cg, .string (U s)] W fun e w' => e = .returned (.bool true) ∧ Below W.heap.size W w') := Lib.hid (fun W hW => by
                have h := has19 (hrowg.below hW (Nat.le_refl _)) hleg (by omega) s
                rw [hb] at h
                exact h)
              have HCNT := Lib.hid hcnt
              clear hb hcnt hg hn cgc cs l1 l2 hrowg
              go_upto_region 12 with (fail)
              go_region_held3 (fun w' => Below wi.heap.size wi w' ∧ w'.cell? (ag.add q) = some (.slice Ag g.length cg) ∧ w'.cell? (ax.add k) = some (.string (U s)))
                (exact HK.out _ hcur)
                (first | (go_at_call 19; (with_reducible refine ((H19.out _ hcur).mono ?_)); rintro ee w9 ⟨rfl, hB9⟩; replace hcur := hcur.trans (hB9.mono hcur.size); clear hB9))
              all_goals
                go_wp2
                go_roundw
                case measure => simp [intOf]; omega
                case rel => exact ⟨q + 1, hqt, by go_num, by first | (rw [HCNT.out]; done) | (rw [HCNT.out]; first | rfl | go_num), HBI0.out.trans (hcur.mono HBI0.out.size)⟩
            | false =>
              have hcnt : ((gs.take (q + 1)).filter fun g => g.contains s).length = n := by rw [count_step hg, hn, hb]; rfl
              have H19 : Hid (∀ W, Below wi.heap.size wi W → Calls Try.prog 19 #[.slice Ag g.length cg, .string (U s)] W fun e w' => e = .returned (.bool false) ∧ Below W.heap.size W w') := Lib.hid (fun W hW => by
                have h := has19 (hrowg.below hW (Nat.le_refl _)) hleg (by omega) s
                rw [hb] at h
                exact h)
              have HCNT := Lib.hid hcnt
              clear hb hcnt hg hn cgc cs l1 l2 hrowg
              go_upto_region 12 with (fail)
              go_region_held3 (fun w' => Below wi.heap.size wi w' ∧ w'.cell? (ag.add q) = some (.slice Ag g.length cg) ∧ w'.cell? (ax.add k) = some (.string (U s)))
                (exact HK.out _ hcur)
                (first | (go_at_call 19; (with_reducible refine ((H19.out _ hcur).mono ?_)); rintro ee w9 ⟨rfl, hB9⟩; replace hcur := hcur.trans (hB9.mono hcur.size); clear hB9))
              all_goals
                go_wp2
                go_roundw
                case measure => simp [intOf]; omega
                case rel => exact ⟨q + 1, hqt, by go_num, by first | (rw [HCNT.out]; done) | (rw [HCNT.out]; first | rfl | go_num), HBI0.out.trans (hcur.mono HBI0.out.size)⟩
          · have hqe : q = gs.length := by omega
            subst hqe
            simp only [List.take_length]
            obtain ⟨n, hn⟩ : ∃ n, n = (gs.filter fun g => g.contains s).length := ⟨_, rfl⟩
            rw [← hn]
            have hc1 := hcount.out
            rw [← hn] at hc1
            clear hn hcount
            obtain ⟨hn1, hn2⟩ := hc1
            have HN2 := Lib.hid hn2
            have HE5 := Lib.hid (HE3.out.below HBI.out (Nat.le_refl _))
            have HR5 := Lib.hid (HR3.out.below HBI.out (Nat.le_refl _))
            have hn4 := HZ.out.1
            obtain ⟨wp, rfl⟩ : ∃ wp : World, wp = wr := ⟨_, rfl⟩
            clear hn2
            go_wp2
            go_loopw [8, 9] (fun s8 i wi => ∃ (q : Nat) (b : Bool), q ≤ es.length ∧ i = .int .i64 q ∧ s8 = .bool b ∧ (b = true ↔ ∃ e ∈ es.take q, e.1 = s ∧ Conn (ends es) e.2.2 s) ∧ Below wp.heap.size wp wi) (fun _ i _ => es.length - (intOf i).toNat)
            case atStart => exact ⟨0, false, Nat.zero_le _, rfl, rfl, by simp, Below.refl _ _⟩
            case round =>
              obtain ⟨q, b, hq, rfl, rfl, hb, hbi⟩ := hrel
              have HB := Lib.hid hb
              have HBJ := Lib.hid hbi
              clear hb hbi
              by_cases hqe : q < es.length
              · obtain ⟨e, he⟩ : ∃ e, es[q]? = some e := ⟨_, List.getElem?_eq_getElem hqe⟩
                obtain ⟨ae, rfl, e0, e1, e2⟩ := HE5.out.below HBJ.out (Nat.le_refl _) q e he
                obtain ⟨ax, rfl, cs⟩ := HR5.out.below HBJ.out (Nat.le_refl _) k s HS.out
                have hqb : q ≤ 1000000 := by omega
                have HT : Hid (∀ b' : Bool, (b' = true ↔ b = true ∨ (e.1 = s ∧ Conn (ends es) e.2.2 s)) → (b' = true ↔ ∃ e ∈ es.take (q + 1), e.1 = s ∧ Conn (ends es) e.2.2 s)) := Lib.hid (fun b' h => by
                  rw [h, HB.out, List.take_add_one, he]
                  simp only [Option.toList_some, List.mem_append, List.mem_singleton]
                  constructor
                  · rintro (⟨u, hu, h1⟩ | h1)
                    · exact ⟨u, .inl hu, h1⟩
                    · exact ⟨e, .inr rfl, h1⟩
                  · rintro ⟨u, hu | rfl, h1⟩
                    · exact .inl ⟨u, hu, h1⟩
                    · exact .inr h1)
                have hsz := HZ.out.2 e (List.mem_of_getElem? he)
                clear he
                have i1 : (0 : Int) ≤ (q : Int) := by omega
                have i2 : (q : Int) < (es.length : Int) := by omega
                have i3 : (0 : Int) ≤ (k : Int) := by omega
                have i4 : (k : Int) < (xs.length : Int) := by omega
                cases b with
                | true =>
                  go_upto_region 18 with (fail)
                  go_quiet (fail)
                  go_wp2
                  go_roundw
                  case measure => simp [intOf]; omega
                  case rel => exact ⟨q + 1, true, hqe, by go_num, rfl, HT.out true (by simp), HBJ.out.trans ((drawnBelow _ _).mono HBJ.out.size)⟩
                | false =>
                  by_cases h1 : e.1 = s
                  · obtain ⟨cb, hcb⟩ : ∃ cb : Bool, (cb = true ↔ Conn (ends es) e.2.2 s) := by
                      by_cases hc : Conn (ends es) e.2.2 s
                      · exact ⟨true, by simp [hc]⟩
                      · exact ⟨false, by simp [hc]⟩
                    have HT2 := Lib.hid (HT.out cb (by rw [hcb]; simp [h1]))
                    have HCB := Lib.hid hcb
                    have hb1 := beq_U_true h1
                    clear hcb h1
                    obtain ⟨wi, rfl⟩ : ∃ wi : World, wi = wr := ⟨_, rfl⟩
                    have H29 := Lib.hid (fun W a hW hR => reach_one (A := some ae) (cap := cap) (es := es) (HE5.out.below HBJ.out (Nat.le_refl _)) (by have := HZ.out.1; omega) (fun e he => by have := HZ.out.2 e he; omega) e.2.2 (by have := hsz.2; omega) W a hW hR)
                    have l0 := World.block_lt_of_cell? _ _ e0
                    have l2 := World.block_lt_of_cell? _ _ e2
                    have ls := World.block_lt_of_cell? _ _ cs
                    have HK := Lib.hid (fun w' (h : Below wi.heap.size wi w') => (⟨h, (h.cell l0).trans e0, (h.cell l2).trans e2, (h.cell ls).trans cs⟩ : Below wi.heap.size wi w' ∧ w'.cell? _ = some (.string (U e.1)) ∧ w'.cell? _ = some (.string (U e.2.2)) ∧ w'.cell? _ = some (.string (U s))))
                    have hcur := (Below.refl wi.heap.size wi).drew
                    clear l0 l2 ls
                    go_upto_region 18 with (fail)
                    go_region_held3 (fun w' => Below wi.heap.size wi w' ∧ w'.cell? (ae.add (q * 3)) = some (.string (U e.1)) ∧ w'.cell? ⟨(ae.add (q * 3)).block, (ae.add (q * 3)).off + 2, none⟩ = some (.string (U e.2.2)) ∧ w'.cell? (ax.add k) = some (.string (U s)))
                      (first | exact HK.out _ hcur | exact HK.out _ (below_made _ _) | exact HK.out _ (hcur.alloc hcur.size _))
                      (first
                        | (go_at_call 29; (with_reducible refine ((H29.out _ _ (below_made _ _) (row_made _ _)).mono ?_)); rintro ee w9 ⟨A9, c9, rr, rfl, hle9, hl9, hr9, hI9, hB9⟩; have HL9 := Lib.hid hle9; have HR9 := Lib.hid hr9; have HI9 := Lib.hid (reach_has hI9 cb HCB.out); have HN9 := Lib.hid hl9; clear hcur; have hcur := hB9; clear hB9 hle9 hr9 hI9 hl9)
                        | (go_at_call 19; (with_reducible refine ((has19b HR9.out HL9.out (by have := HN9.out; omega) s cb HI9.out).mono ?_)); rintro ee w10 ⟨rfl, hB10⟩; replace hcur := hcur.trans (hB10.mono hcur.size); clear hB10))
                    all_goals
                      go_wp2
                      go_roundw
                      case measure => simp [intOf]; omega
                      case rel => exact ⟨q + 1, cb, hqe, by go_num, rfl, HT2.out, HBJ.out.trans (hcur.mono HBJ.out.size)⟩
                  · have hb1 := beq_U_false h1
                    have HT2 := Lib.hid (HT.out false (by simp [h1]))
                    clear h1
                    go_upto_region 18 with (fail)
                    go_quiet (fail)
                    go_wp2
                    go_roundw
                    case measure => simp [intOf]; omega
                    case rel => exact ⟨q + 1, false, hqe, by go_num, rfl, HT2.out, HBJ.out.trans ((drawnBelow _ _).mono HBJ.out.size)⟩
              · have hqe2 : q = es.length := by omega
                subst hqe2
                have hself : ((n : Int) == 1) = b := by
                  have h := HB.out
                  rw [List.take_length] at h
                  have h2 : b = true ↔ n = 1 := h.trans (self_iff.trans HN2.out.symm)
                  rw [Bool.eq_iff_iff, beq_iff_eq, h2]
                  omega
                have hn1b : ¬ (1 : Int) < (n : Int) := by omega
                clear HB
                cases b with
                | true =>
                  go_wp2
                  go_roundw
                  case measure => simp [intOf]; omega
                  case rel => exact ⟨k + 1, hlt, by go_num, HBI.out.trans (HBJ.out.mono HBI.out.size)⟩
                | false =>
                  go_wp2
                  go_roundw
                  case measure => simp [intOf]; omega
                  case rel => exact ⟨k + 1, hlt, by go_num, HBI.out.trans (HBJ.out.mono HBI.out.size)⟩
      · have hke : k = xs.length := by omega
        subst hke
        have HG4 := Lib.hid (HG3.out.keep HBK.out)
        have HE4 := Lib.hid (HE3.out.below HBK.out (Nat.le_refl _))
        have HBW4 := Lib.hid (HBW3.out.trans (HBK.out.mono HBW3.out.size))
        have hl2 := HL2.out
        obtain ⟨wp, rfl⟩ : ∃ wp : World, wp = wr := ⟨_, rfl⟩
        clear HR3 HG3 HE3 HBW3 HBK
        go_wp2
        go_loopw [10] (fun i wr => ∃ q : Nat, q ≤ gs.length ∧ i = .int .i64 q ∧ Below wp.heap.size wp wr) (fun i _ => gs.length - (intOf i).toNat)
        case atStart => exact ⟨0, Nat.zero_le _, rfl, Below.refl _ _⟩
        case round =>
          obtain ⟨q, hq, rfl, hbq⟩ := hrel
          have HBQ := Lib.hid hbq
          clear hbq
          by_cases hqt : q < gs.length
          · obtain ⟨g, hg⟩ : ∃ g, gs[q]? = some g := ⟨_, List.getElem?_eq_getElem hqt⟩
            have hr := (HI.out.2 g).1 (List.mem_of_getElem? hg)
            have hgl := ring_len hr HX.out
            have hl3 := HL3.out
            obtain ⟨ag, Ag, cg, rfl, cgc, hleg, hrowg⟩ := HG4.out.keep HBQ.out q g hg
            have hg0 : 0 < g.length := List.length_pos_iff.2 hr.ne_nil
            obtain ⟨x0, hx0⟩ : ∃ x0, g[0]? = some x0 := ⟨_, List.getElem?_eq_getElem hg0⟩
            obtain ⟨ax, rfl, c0⟩ := hrowg 0 x0 hx0
            have hqb : q ≤ 1000000 := by omega
            have i1 : (0 : Int) ≤ (q : Int) := by omega
            have i2 : (q : Int) < (gs.length : Int) := by omega
            have HG := Lib.hid hg
            have HR := Lib.hid hr
            have HX0 := Lib.hid hx0
            have HROWG := Lib.hid hrowg
            have HLEG := Lib.hid hleg
            have l1 := World.block_lt_of_cell? _ _ cgc
            have CG := Lib.hid cgc
            have CG0 := Lib.hid c0
            clear hg hr hx0 hrowg c0
            obtain ⟨wo, rfl⟩ : ∃ wo : World, wo = wr := ⟨_, rfl⟩
            go_wp2
            go_loopw [11] (fun i wi => ∃ j : Nat, j ≤ g.length ∧ i = .int .i64 j ∧ Below wo.heap.size wo wi) (fun i _ => g.length - (intOf i).toNat)
            case atStart => exact ⟨0, Nat.zero_le _, rfl, Below.refl _ _⟩
            case round =>
              obtain ⟨j, hj, rfl, hbj⟩ := hrel
              have HBJ := Lib.hid hbj
              have cgc := (hbj.cell l1).trans CG.out
              clear hbj
              by_cases hjt : j < g.length
              · obtain ⟨y, hy⟩ : ∃ y, g[j]? = some y := ⟨_, List.getElem?_eq_getElem hjt⟩
                obtain ⟨_, ea, cy⟩ := (HROWG.out.below HBJ.out (Nat.le_refl _)) j y hy
                cases ea
                have l0 := World.block_lt_of_cell? _ _ CG0.out
                have c0 : wr.cell? ax = some (.string (U x0)) := by
                  have h := (HBJ.out.cell l0).trans CG0.out
                  simp [Addr.add] at h
                  exact h
                have hm := HR.out.mem_mut (List.mem_of_getElem? HX0.out) (List.mem_of_getElem? hy)
                have hsx : x0.length ≤ 100000 := node_size HZ.out.2 (HR.out.cyc (List.mem_of_getElem? HX0.out)).node
                have hsy : y.length ≤ 100000 := node_size HZ.out.2 (HR.out.cyc (List.mem_of_getElem? hy)).node
                have hjb : j ≤ 1000000 := by omega
                have H29x := Lib.hid (fun W a hW hR => reach_one (A := A) (cap := cap) (es := es) (HE4.out.below (HBQ.out.trans (HBJ.out.mono HBQ.out.size)) (Nat.le_refl _)) (by have := HZ.out.1; omega) (fun e he => by have := HZ.out.2 e he; omega) x0 hsx W a hW hR)
                have H29y := Lib.hid (fun W a hW hR => reach_one (A := A) (cap := cap) (es := es) (HE4.out.below (HBQ.out.trans (HBJ.out.mono HBQ.out.size)) (Nat.le_refl _)) (by have := HZ.out.1; omega) (fun e he => by have := HZ.out.2 e he; omega) y hsy W a hW hR)
                have HXY : Hid (Conn (ends es) x0 y) := Lib.hid hm.1
                have HYX : Hid (Conn (ends es) y x0) := Lib.hid hm.2
                clear hm hsx hsy
                obtain ⟨wi, rfl⟩ : ∃ wi : World, wi = wr := ⟨_, rfl⟩
                rcases Nat.eq_zero_or_pos j with rfl | hjp
                · have hyx : x0 = y := by
                    have h := HX0.out
                    rw [hy] at h
                    exact (Option.some.inj h).symm
                  subst hyx
                  have i8 : (0 : Int) < (g.length : Int) := by omega
                  have m1 := World.block_lt_of_cell? _ _ cgc
                  have m2 := World.block_lt_of_cell? _ _ c0
                  have HK := Lib.hid (fun w' (h : Below wi.heap.size wi w') => (⟨h, (h.cell m1).trans cgc, (h.cell m2).trans c0⟩ : Below wi.heap.size wi w' ∧ w'.cell? _ = some (.slice (some ax) g.length cg) ∧ w'.cell? _ = some (.string (U x0))))
                  have hcur := (Below.refl wi.heap.size wi).drew
                  clear m1 m2 hy cy
                  go_upto_region 27 with (fail)
                  refine wp_region_held_drew (S := (fun w' => Below wi.heap.size wi w' ∧ w'.cell? (ag.add q) = some (.slice (some ax) g.length cg) ∧ w'.cell? ax = some (.string (U x0)))) (by kernel_rfl) (HK.out _ hcur) (fun hHeld => ?_)
                  refine wpAnyH_take (i := 0) (oi := { dst := some 100, op := Op.move (Operand.tmp 0), type := 24, pos := "law.go:132", after := #[], guard := none }) (v := ?v0) rfl (by kernel_rfl) (by kernel_rfl) (by kernel_rfl) (fun _ _ _ h => h) (Or.inl ⟨by rfl, ?y0⟩) (by assumption) ?_
                  case y0 => (intro w hSw; (try dsimp only at hSw); go_simp; try with_reducible rfl)
                  simp only [Act.put, List.setIfInBounds_toArray, List.set_cons_zero, List.set_cons_succ]
                  refine wpAnyH_take (i := 1) (oi := { dst := some 101, op := Op.move (Operand.tmp 3), type := 51, pos := "law.go:132", after := #[], guard := none }) (v := ?v1) rfl (by kernel_rfl) (by kernel_rfl) (by kernel_rfl) (fun _ _ _ h => h) (Or.inl ⟨by rfl, ?y1⟩) (by assumption) ?_
                  case y1 => (intro w hSw; (try dsimp only at hSw); go_simp; try with_reducible rfl)
                  simp only [Act.put, List.setIfInBounds_toArray, List.set_cons_zero, List.set_cons_succ]
                  refine wpAnyH_take (i := 2) (oi := { dst := some 102, op := Op.move (Operand.tmp 10), type := 3, pos := "law.go:132", after := #[], guard := none }) (v := ?v2) rfl (by kernel_rfl) (by kernel_rfl) (by kernel_rfl) (fun _ _ _ h => h) (Or.inl ⟨by rfl, ?y2⟩) (by assumption) ?_
                  case y2 => (intro w hSw; (try dsimp only at hSw); go_simp; try with_reducible rfl)
                  simp only [Act.put, List.setIfInBounds_toArray, List.set_cons_zero, List.set_cons_succ]
                  refine wpAnyH_take (i := 3) (oi := { dst := some 103, op := Op.indexAddr 51 (Operand.tmp 101) (Operand.tmp 102), type := 0, pos := "law.go:132", after := #[{ on := 1, ground := Ground.data }, { on := 2, ground := Ground.data }], guard := none }) (v := ?v3) rfl (by kernel_rfl) (by kernel_rfl) (by kernel_rfl) (fun _ _ _ h => h) (Or.inl ⟨by rfl, ?y3⟩) (by assumption) ?_
                  case y3 => (intro w hSw; (try dsimp only at hSw); go_simp; try with_reducible rfl)
                  simp only [Act.put, List.setIfInBounds_toArray, List.set_cons_zero, List.set_cons_succ]
                  refine wpAnyH_take (i := 4) (oi := { dst := some 104, op := Op.load 22 (Operand.tmp 103), type := 22, pos := "law.go:132", after := #[{ on := 3, ground := Ground.data }], guard := none }) (v := ?v4) rfl (by kernel_rfl) (by kernel_rfl) (by kernel_rfl) (fun _ _ _ h => h) (Or.inl ⟨by rfl, ?y4⟩) (by assumption) ?_
                  case y4 => (intro w hSw; (try dsimp only at hSw); go_simp; try with_reducible rfl)
                  simp only [Act.put, List.setIfInBounds_toArray, List.set_cons_zero, List.set_cons_succ]
                  refine wpAnyH_take (i := 5) (oi := { dst := some 105, op := Op.indexAddr 22 (Operand.tmp 104) (Operand.const (Value.int IntKind.i64 0)), type := 0, pos := "law.go:132", after := #[{ on := 4, ground := Ground.data }], guard := none }) (v := ?v5) rfl (by kernel_rfl) (by kernel_rfl) (by kernel_rfl) (fun _ _ _ h => h) (Or.inl ⟨by rfl, ?y5⟩) (by assumption) ?_
                  case y5 => (intro w hSw; (try dsimp only at hSw); go_simp; try with_reducible rfl)
                  simp only [Act.put, List.setIfInBounds_toArray, List.set_cons_zero, List.set_cons_succ]
                  refine wpAnyH_take (i := 6) (oi := { dst := some 106, op := Op.load 9 (Operand.tmp 105), type := 9, pos := "law.go:132", after := #[{ on := 5, ground := Ground.data }], guard := none }) (v := ?v6) rfl (by kernel_rfl) (by kernel_rfl) (by kernel_rfl) (fun _ _ _ h => h) (Or.inl ⟨by rfl, ?y6⟩) (by assumption) ?_
                  case y6 => (intro w hSw; (try dsimp only at hSw); go_simp; try with_reducible rfl)
                  simp only [Act.put, List.setIfInBounds_toArray, List.set_cons_zero, List.set_cons_succ]
                  refine wpAnyH_take (i := 9) (oi := { dst := some 109, op := Op.move (Operand.tmp 3), type := 51, pos := "law.go:132", after := #[], guard := none }) (v := ?v9) rfl (by kernel_rfl) (by kernel_rfl) (by kernel_rfl) (fun _ _ _ h => h) (Or.inl ⟨by rfl, ?y9⟩) (by assumption) ?_
                  case y9 => (intro w hSw; (try dsimp only at hSw); go_simp; try with_reducible rfl)
                  simp only [Act.put, List.setIfInBounds_toArray, List.set_cons_zero, List.set_cons_succ]
                  refine wpAnyH_take (i := 10) (oi := { dst := some 110, op := Op.move (Operand.tmp 10), type := 3, pos := "law.go:132", after := #[], guard := none }) (v := ?v10) rfl (by kernel_rfl) (by kernel_rfl) (by kernel_rfl) (fun _ _ _ h => h) (Or.inl ⟨by rfl, ?y10⟩) (by assumption) ?_
                  case y10 => (intro w hSw; (try dsimp only at hSw); go_simp; try with_reducible rfl)
                  simp only [Act.put, List.setIfInBounds_toArray, List.set_cons_zero, List.set_cons_succ]
                  refine wpAnyH_take (i := 11) (oi := { dst := some 111, op := Op.indexAddr 51 (Operand.tmp 109) (Operand.tmp 110), type := 0, pos := "law.go:132", after := #[{ on := 9, ground := Ground.data }, { on := 10, ground := Ground.data }], guard := none }) (v := ?v11) rfl (by kernel_rfl) (by kernel_rfl) (by kernel_rfl) (fun _ _ _ h => h) (Or.inl ⟨by rfl, ?y11⟩) (by assumption) ?_
                  case y11 => (intro w hSw; (try dsimp only at hSw); go_simp; try with_reducible rfl)
                  simp only [Act.put, List.setIfInBounds_toArray, List.set_cons_zero, List.set_cons_succ]
                  refine wpAnyH_take (i := 12) (oi := { dst := some 112, op := Op.load 22 (Operand.tmp 111), type := 22, pos := "law.go:132", after := #[{ on := 11, ground := Ground.data }], guard := none }) (v := ?v12) rfl (by kernel_rfl) (by kernel_rfl) (by kernel_rfl) (fun _ _ _ h => h) (Or.inl ⟨by rfl, ?y12⟩) (by assumption) ?_
                  case y12 => (intro w hSw; (try dsimp only at hSw); go_simp; try with_reducible rfl)
                  simp only [Act.put, List.setIfInBounds_toArray, List.set_cons_zero, List.set_cons_succ]
                  refine wpAnyH_take (i := 13) (oi := { dst := some 113, op := Op.move (Operand.tmp 11), type := 3, pos := "law.go:132", after := #[], guard := none }) (v := ?v13) rfl (by kernel_rfl) (by kernel_rfl) (by kernel_rfl) (fun _ _ _ h => h) (Or.inl ⟨by rfl, ?y13⟩) (by assumption) ?_
                  case y13 => (intro w hSw; (try dsimp only at hSw); go_simp; try with_reducible rfl)
                  simp only [Act.put, List.setIfInBounds_toArray, List.set_cons_zero, List.set_cons_succ]
                  refine wpAnyH_take (i := 14) (oi := { dst := some 114, op := Op.indexAddr 22 (Operand.tmp 112) (Operand.tmp 113), type := 0, pos := "law.go:132", after := #[{ on := 12, ground := Ground.data }, { on := 13, ground := Ground.data }], guard := none }) (v := ?v14) rfl (by kernel_rfl) (by kernel_rfl) (by kernel_rfl) (fun _ _ _ h => h) (Or.inl ⟨by rfl, ?y14⟩) (by assumption) ?_
                  case y14 => (intro w hSw; (try dsimp only at hSw); go_simp; try with_reducible rfl)
                  simp only [Act.put, List.setIfInBounds_toArray, List.set_cons_zero, List.set_cons_succ]
                  refine wpAnyH_take (i := 15) (oi := { dst := some 115, op := Op.load 9 (Operand.tmp 114), type := 9, pos := "law.go:132", after := #[{ on := 14, ground := Ground.data }], guard := none }) (v := ?v15) rfl (by kernel_rfl) (by kernel_rfl) (by kernel_rfl) (fun _ _ _ h => h) (Or.inl ⟨by rfl, ?y15⟩) (by assumption) ?_
                  case y15 => (intro w hSw; (try dsimp only at hSw); go_simp; try with_reducible rfl)
                  simp only [Act.put, List.setIfInBounds_toArray, List.set_cons_zero, List.set_cons_succ]
                  refine wpAnyH_ready (rs := [7]) (by kernel_rfl) (by simp) ?_
                  refine AllReadyH.cons (o := { dst := some 107, op := Op.buildSlice 22 1 #[(0, Operand.tmp 106)], type := 22, pos := "law.go:132", after := #[{ on := 6, ground := Ground.data }], guard := none }) rfl (fun K hK => ?_) AllReadyH.nil
                  go_simp
                  refine hK.out _ _ (HK.out _ (below_made _ _)) (fun hHeld => ?_)
                  clear hK K
                  try simp only [Act.put, List.setIfInBounds_toArray, List.set_cons_zero, List.set_cons_succ]
                  refine wpAnyH_ready (rs := [8]) (by kernel_rfl) (by simp) ?_
                  refine AllReadyH.cons (o := { dst := some 108, op := Op.call { callee := Callee.value (Operand.func 29), args := #[Operand.tmp 100, Operand.tmp 107], argTypes := #[24, 22] }, type := 22, pos := "law.go:132", after := #[{ on := 0, ground := Ground.data }, { on := 7, ground := Ground.data }], guard := none }) rfl (fun K hK => ?_) AllReadyH.nil
                  go_simp
                  (go_at_call 29; (with_reducible refine ((H29x.out _ _ (below_made _ _) (row_made _ _)).mono ?_)); rintro ee w9 ⟨A9, c9, rr, rfl, hle9, hl9, hr9, hI9, hB9⟩; have HL9 := Lib.hid hle9; have HR9 := Lib.hid hr9; have HI9 := Lib.hid (reach_has hI9 true (iff_of_true rfl HXY.out)); have HN9 := Lib.hid hl9; clear hcur; have hcur := hB9; clear hB9 hle9 hr9 hI9 hl9)
                  refine hK.out _ _ (HK.out _ hcur) (fun hHeld => ?_)
                  clear hK K
                  try simp only [Act.put, List.setIfInBounds_toArray, List.set_cons_zero, List.set_cons_succ]
                  refine wpAnyH_ready (rs := [16]) (by kernel_rfl) (by simp) ?_
                  refine AllReadyH.cons (o := { dst := some 116, op := Op.call { callee := Callee.value (Operand.func 19), args := #[Operand.tmp 108, Operand.tmp 115], argTypes := #[22, 9] }, type := 4, pos := "law.go:132", after := #[{ on := 8, ground := Ground.data }, { on := 15, ground := Ground.data }, { on := 8, ground := Ground.chain }], guard := none }) rfl (fun K hK => ?_) AllReadyH.nil
                  go_simp
                  (go_at_call 19; (with_reducible refine ((has19b HR9.out HL9.out (by have := HN9.out; omega) x0 true HI9.out).mono ?_)); rintro ee w10 ⟨rfl, hB10⟩; replace hcur := hcur.trans (hB10.mono hcur.size); clear hB10)
                  refine hK.out _ _ (HK.out _ hcur) (fun hHeld => ?_)
                  clear hK K
                  try simp only [Act.put, List.setIfInBounds_toArray, List.set_cons_zero, List.set_cons_succ]
                  refine wpAnyH_take (i := 17) (oi := { dst := some 117, op := Op.unOp UnOp.not 4 (Operand.tmp 116), type := 4, pos := "law.go:132", after := #[{ on := 16, ground := Ground.data }], guard := none }) (v := ?v17) rfl (by kernel_rfl) (by kernel_rfl) (by kernel_rfl) (fun _ _ _ h => h) (Or.inl ⟨by rfl, ?y17⟩) (by assumption) ?_
                  case y17 => (intro w hSw; (try dsimp only at hSw); go_simp; try with_reducible rfl)
                  simp only [Act.put, List.setIfInBounds_toArray, List.set_cons_zero, List.set_cons_succ]
                  refine wpAnyH_take (i := 18) (oi := { dst := some 118, op := Op.move (Operand.tmp 117), type := 4, pos := "law.go:132", after := #[{ on := 17, ground := Ground.data }, { on := 16, ground := Ground.chain }], guard := none }) (v := ?v18) rfl (by kernel_rfl) (by kernel_rfl) (by kernel_rfl) (fun _ _ _ h => h) (Or.inl ⟨by rfl, ?y18⟩) (by assumption) ?_
                  case y18 => (intro w hSw; (try dsimp only at hSw); go_simp; try with_reducible rfl)
                  simp only [Act.put, List.setIfInBounds_toArray, List.set_cons_zero, List.set_cons_succ]
                  refine wpAnyH_take (i := 19) (oi := { dst := some 119, op := Op.move (Operand.tmp 0), type := 24, pos := "law.go:132", after := #[{ on := 18, ground := Ground.guard }], guard := some (18, false) }) (v := ?v19) rfl (by kernel_rfl) (by kernel_rfl) (by kernel_rfl) (fun _ _ _ h => h) (Or.inl ⟨by rfl, ?y19⟩) (by assumption) ?_
                  case y19 => (intro w hSw; (try dsimp only at hSw); go_simp; try with_reducible rfl)
                  simp only [Act.put, List.setIfInBounds_toArray, List.set_cons_zero, List.set_cons_succ]
                  refine wpAnyH_take (i := 20) (oi := { dst := some 120, op := Op.move (Operand.tmp 3), type := 51, pos := "law.go:132", after := #[{ on := 18, ground := Ground.guard }], guard := some (18, false) }) (v := ?v20) rfl (by kernel_rfl) (by kernel_rfl) (by kernel_rfl) (fun _ _ _ h => h) (Or.inl ⟨by rfl, ?y20⟩) (by assumption) ?_
                  case y20 => (intro w hSw; (try dsimp only at hSw); go_simp; try with_reducible rfl)
                  simp only [Act.put, List.setIfInBounds_toArray, List.set_cons_zero, List.set_cons_succ]
                  refine wpAnyH_take (i := 21) (oi := { dst := some 121, op := Op.move (Operand.tmp 10), type := 3, pos := "law.go:132", after := #[{ on := 18, ground := Ground.guard }], guard := some (18, false) }) (v := ?v21) rfl (by kernel_rfl) (by kernel_rfl) (by kernel_rfl) (fun _ _ _ h => h) (Or.inl ⟨by rfl, ?y21⟩) (by assumption) ?_
                  case y21 => (intro w hSw; (try dsimp only at hSw); go_simp; try with_reducible rfl)
                  simp only [Act.put, List.setIfInBounds_toArray, List.set_cons_zero, List.set_cons_succ]
                  refine wpAnyH_take (i := 22) (oi := { dst := some 122, op := Op.indexAddr 51 (Operand.tmp 120) (Operand.tmp 121), type := 0, pos := "law.go:132", after := #[{ on := 20, ground := Ground.data }, { on := 21, ground := Ground.data }, { on := 18, ground := Ground.guard }], guard := some (18, false) }) (v := ?v22) rfl (by kernel_rfl) (by kernel_rfl) (by kernel_rfl) (fun _ _ _ h => h) (Or.inl ⟨by rfl, ?y22⟩) (by assumption) ?_
                  case y22 => (intro w hSw; (try dsimp only at hSw); go_simp; try with_reducible rfl)
                  simp only [Act.put, List.setIfInBounds_toArray, List.set_cons_zero, List.set_cons_succ]
                  refine wpAnyH_take (i := 23) (oi := { dst := some 123, op := Op.load 22 (Operand.tmp 122), type := 22, pos := "law.go:132", after := #[{ on := 22, ground := Ground.data }, { on := 18, ground := Ground.guard }], guard := some (18, false) }) (v := ?v23) rfl (by kernel_rfl) (by kernel_rfl) (by kernel_rfl) (fun _ _ _ h => h) (Or.inl ⟨by rfl, ?y23⟩) (by assumption) ?_
                  case y23 => (intro w hSw; (try dsimp only at hSw); go_simp; try with_reducible rfl)
                  simp only [Act.put, List.setIfInBounds_toArray, List.set_cons_zero, List.set_cons_succ]
                  refine wpAnyH_take (i := 24) (oi := { dst := some 124, op := Op.move (Operand.tmp 11), type := 3, pos := "law.go:132", after := #[{ on := 18, ground := Ground.guard }], guard := some (18, false) }) (v := ?v24) rfl (by kernel_rfl) (by kernel_rfl) (by kernel_rfl) (fun _ _ _ h => h) (Or.inl ⟨by rfl, ?y24⟩) (by assumption) ?_
                  case y24 => (intro w hSw; (try dsimp only at hSw); go_simp; try with_reducible rfl)
                  simp only [Act.put, List.setIfInBounds_toArray, List.set_cons_zero, List.set_cons_succ]
                  refine wpAnyH_take (i := 25) (oi := { dst := some 125, op := Op.indexAddr 22 (Operand.tmp 123) (Operand.tmp 124), type := 0, pos := "law.go:132", after := #[{ on := 23, ground := Ground.data }, { on := 24, ground := Ground.data }, { on := 18, ground := Ground.guard }], guard := some (18, false) }) (v := ?v25) rfl (by kernel_rfl) (by kernel_rfl) (by kernel_rfl) (fun _ _ _ h => h) (Or.inl ⟨by rfl, ?y25⟩) (by assumption) ?_
                  case y25 => (intro w hSw; (try dsimp only at hSw); go_simp; try with_reducible rfl)
                  simp only [Act.put, List.setIfInBounds_toArray, List.set_cons_zero, List.set_cons_succ]
                  refine wpAnyH_take (i := 26) (oi := { dst := some 126, op := Op.load 9 (Operand.tmp 125), type := 9, pos := "law.go:132", after := #[{ on := 25, ground := Ground.data }, { on := 18, ground := Ground.guard }], guard := some (18, false) }) (v := ?v26) rfl (by kernel_rfl) (by kernel_rfl) (by kernel_rfl) (fun _ _ _ h => h) (Or.inl ⟨by rfl, ?y26⟩) (by assumption) ?_
                  case y26 => (intro w hSw; (try dsimp only at hSw); go_simp; try with_reducible rfl)
                  simp only [Act.put, List.setIfInBounds_toArray, List.set_cons_zero, List.set_cons_succ]
                  refine wpAnyH_take (i := 29) (oi := { dst := some 129, op := Op.move (Operand.tmp 3), type := 51, pos := "law.go:132", after := #[{ on := 18, ground := Ground.guard }], guard := some (18, false) }) (v := ?v29) rfl (by kernel_rfl) (by kernel_rfl) (by kernel_rfl) (fun _ _ _ h => h) (Or.inl ⟨by rfl, ?y29⟩) (by assumption) ?_
                  case y29 => (intro w hSw; (try dsimp only at hSw); go_simp; try with_reducible rfl)
                  simp only [Act.put, List.setIfInBounds_toArray, List.set_cons_zero, List.set_cons_succ]
                  refine wpAnyH_take (i := 30) (oi := { dst := some 130, op := Op.move (Operand.tmp 10), type := 3, pos := "law.go:132", after := #[{ on := 18, ground := Ground.guard }], guard := some (18, false) }) (v := ?v30) rfl (by kernel_rfl) (by kernel_rfl) (by kernel_rfl) (fun _ _ _ h => h) (Or.inl ⟨by rfl, ?y30⟩) (by assumption) ?_
                  case y30 => (intro w hSw; (try dsimp only at hSw); go_simp; try with_reducible rfl)
                  simp only [Act.put, List.setIfInBounds_toArray, List.set_cons_zero, List.set_cons_succ]
                  refine wpAnyH_take (i := 31) (oi := { dst := some 131, op := Op.indexAddr 51 (Operand.tmp 129) (Operand.tmp 130), type := 0, pos := "law.go:132", after := #[{ on := 29, ground := Ground.data }, { on := 30, ground := Ground.data }, { on := 18, ground := Ground.guard }], guard := some (18, false) }) (v := ?v31) rfl (by kernel_rfl) (by kernel_rfl) (by kernel_rfl) (fun _ _ _ h => h) (Or.inl ⟨by rfl, ?y31⟩) (by assumption) ?_
                  case y31 => (intro w hSw; (try dsimp only at hSw); go_simp; try with_reducible rfl)
                  simp only [Act.put, List.setIfInBounds_toArray, List.set_cons_zero, List.set_cons_succ]
                  refine wpAnyH_take (i := 32) (oi := { dst := some 132, op := Op.load 22 (Operand.tmp 131), type := 22, pos := "law.go:132", after := #[{ on := 31, ground := Ground.data }, { on := 18, ground := Ground.guard }], guard := some (18, false) }) (v := ?v32) rfl (by kernel_rfl) (by kernel_rfl) (by kernel_rfl) (fun _ _ _ h => h) (Or.inl ⟨by rfl, ?y32⟩) (by assumption) ?_
                  case y32 => (intro w hSw; (try dsimp only at hSw); go_simp; try with_reducible rfl)
                  simp only [Act.put, List.setIfInBounds_toArray, List.set_cons_zero, List.set_cons_succ]
                  refine wpAnyH_take (i := 33) (oi := { dst := some 133, op := Op.indexAddr 22 (Operand.tmp 132) (Operand.const (Value.int IntKind.i64 0)), type := 0, pos := "law.go:132", after := #[{ on := 32, ground := Ground.data }, { on := 18, ground := Ground.guard }], guard := some (18, false) }) (v := ?v33) rfl (by kernel_rfl) (by kernel_rfl) (by kernel_rfl) (fun _ _ _ h => h) (Or.inl ⟨by rfl, ?y33⟩) (by assumption) ?_
                  case y33 => (intro w hSw; (try dsimp only at hSw); go_simp; try with_reducible rfl)
                  simp only [Act.put, List.setIfInBounds_toArray, List.set_cons_zero, List.set_cons_succ]
                  refine wpAnyH_take (i := 34) (oi := { dst := some 134, op := Op.load 9 (Operand.tmp 133), type := 9, pos := "law.go:132", after := #[{ on := 33, ground := Ground.data }, { on := 18, ground := Ground.guard }], guard := some (18, false) }) (v := ?v34) rfl (by kernel_rfl) (by kernel_rfl) (by kernel_rfl) (fun _ _ _ h => h) (Or.inl ⟨by rfl, ?y34⟩) (by assumption) ?_
                  case y34 => (intro w hSw; (try dsimp only at hSw); go_simp; try with_reducible rfl)
                  simp only [Act.put, List.setIfInBounds_toArray, List.set_cons_zero, List.set_cons_succ]
                  refine wpAnyH_ready (rs := [27]) (by kernel_rfl) (by simp) ?_
                  refine AllReadyH.cons (o := { dst := some 127, op := Op.buildSlice 22 1 #[(0, Operand.tmp 126)], type := 22, pos := "law.go:132", after := #[{ on := 26, ground := Ground.data }, { on := 18, ground := Ground.guard }], guard := some (18, false) }) rfl (fun K hK => ?_) AllReadyH.nil
                  go_simp
                  refine hK.out _ _ (HK.out _ (hcur.alloc hcur.size _)) (fun hHeld => ?_)
                  clear hK K
                  try simp only [Act.put, List.setIfInBounds_toArray, List.set_cons_zero, List.set_cons_succ]
                  refine wpAnyH_ready (rs := [28]) (by kernel_rfl) (by simp) ?_
                  refine AllReadyH.cons (o := { dst := some 128, op := Op.call { callee := Callee.value (Operand.func 29), args := #[Operand.tmp 119, Operand.tmp 127], argTypes := #[24, 22] }, type := 22, pos := "law.go:132", after := #[{ on := 19, ground := Ground.data }, { on := 27, ground := Ground.data }, { on := 18, ground := Ground.chain }, { on := 18, ground := Ground.guard }], guard := some (18, false) }) rfl (fun K hK => ?_) AllReadyH.nil
                  go_simp
                  (go_at_call 29; have q1 := hcur.alloc hcur.size (.cells #[.string (U x0)] 9); have q2 := from_row w10 x0; have q3 := H29y.out _ _ q1 q2; clear q1 q2; refine (q3.mono ?_); clear q3; rintro ee w11 ⟨A11, c11, rr2, rfl, hle9, hl9, hr9, hI9, hB9⟩; have HL11 := Lib.hid hle9; have HR11 := Lib.hid hr9; have HI11 := Lib.hid (reach_has hI9 true (iff_of_true rfl HYX.out)); have HN11 := Lib.hid hl9; clear hcur; have hcur := hB9; clear hB9 hle9 hr9 hI9 hl9)
                  refine hK.out _ _ (HK.out _ hcur) (fun hHeld => ?_)
                  clear hK K
                  try simp only [Act.put, List.setIfInBounds_toArray, List.set_cons_zero, List.set_cons_succ]
                  refine wpAnyH_ready (rs := [35]) (by kernel_rfl) (by simp) ?_
                  refine AllReadyH.cons (o := { dst := some 135, op := Op.call { callee := Callee.value (Operand.func 19), args := #[Operand.tmp 128, Operand.tmp 134], argTypes := #[22, 9] }, type := 4, pos := "law.go:132", after := #[{ on := 28, ground := Ground.data }, { on := 34, ground := Ground.data }, { on := 28, ground := Ground.chain }, { on := 18, ground := Ground.guard }], guard := some (18, false) }) rfl (fun K hK => ?_) AllReadyH.nil
                  go_simp
                  (go_at_call 19; (with_reducible refine ((has19b HR11.out HL11.out (by have := HN11.out; omega) x0 true HI11.out).mono ?_)); rintro ee w12 ⟨rfl, hB12⟩; replace hcur := hcur.trans (hB12.mono hcur.size); clear hB12)
                  refine hK.out _ _ (HK.out _ hcur) (fun hHeld => ?_)
                  clear hK K
                  try simp only [Act.put, List.setIfInBounds_toArray, List.set_cons_zero, List.set_cons_succ]
                  refine wpAnyH_take (i := 36) (oi := { dst := some 136, op := Op.unOp UnOp.not 4 (Operand.tmp 135), type := 4, pos := "law.go:132", after := #[{ on := 35, ground := Ground.data }, { on := 18, ground := Ground.guard }], guard := some (18, false) }) (v := ?v36) rfl (by kernel_rfl) (by kernel_rfl) (by kernel_rfl) (fun _ _ _ h => h) (Or.inl ⟨by rfl, ?y36⟩) (by assumption) ?_
                  case y36 => (intro w hSw; (try dsimp only at hSw); go_simp; try with_reducible rfl)
                  simp only [Act.put, List.setIfInBounds_toArray, List.set_cons_zero, List.set_cons_succ]
                  refine wpAnyH_take (i := 37) (oi := { dst := some 137, op := Op.pick (Operand.tmp 118) (Operand.const (Value.bool true)) (Operand.tmp 136), type := 4, pos := "law.go:132", after := #[{ on := 18, ground := Ground.data }, { on := 36, ground := Ground.data }], guard := none }) (v := ?v37) rfl (by kernel_rfl) (by kernel_rfl) (by kernel_rfl) (fun _ _ _ h => h) (Or.inl ⟨by rfl, ?y37⟩) (by assumption) ?_
                  case y37 => (intro w hSw; (try dsimp only at hSw); go_simp; try with_reducible rfl)
                  simp only [Act.put, List.setIfInBounds_toArray, List.set_cons_zero, List.set_cons_succ]
                  refine wpAnyH_take (i := 38) (oi := { dst := some 138, op := Op.move (Operand.tmp 137), type := 4, pos := "law.go:132", after := #[{ on := 37, ground := Ground.data }, { on := 35, ground := Ground.chain }], guard := none }) (v := ?v38) rfl (by kernel_rfl) (by kernel_rfl) (by kernel_rfl) (fun _ _ _ h => h) (Or.inl ⟨by rfl, ?y38⟩) (by assumption) ?_
                  case y38 => (intro w hSw; (try dsimp only at hSw); go_simp; try with_reducible rfl)
                  simp only [Act.put, List.setIfInBounds_toArray, List.set_cons_zero, List.set_cons_succ]
                  refine wpAnyH_take (i := 39) (oi := { dst := some 139, op := Op.move (Operand.tmp 11), type := 3, pos := "law.go:132", after := #[{ on := 38, ground := Ground.guard }], guard := some (38, false) }) (v := ?v39) rfl (by kernel_rfl) (by kernel_rfl) (by kernel_rfl) (fun _ _ _ h => h) (Or.inl ⟨by rfl, ?y39⟩) (by assumption) ?_
                  case y39 => (intro w hSw; (try dsimp only at hSw); go_simp; try with_reducible rfl)
                  simp only [Act.put, List.setIfInBounds_toArray, List.set_cons_zero, List.set_cons_succ]
                  refine wpAnyH_take (i := 40) (oi := { dst := some 140, op := Op.binOp BinOp.gtr 3 (Operand.tmp 139) (Operand.const (Value.int IntKind.i64 0)) 3, type := 4, pos := "law.go:132", after := #[{ on := 39, ground := Ground.data }, { on := 38, ground := Ground.guard }], guard := some (38, false) }) (v := ?v40) rfl (by kernel_rfl) (by kernel_rfl) (by kernel_rfl) (fun _ _ _ h => h) (Or.inl ⟨by rfl, ?y40⟩) (by assumption) ?_
                  case y40 => (intro w hSw; (try dsimp only at hSw); go_simp; try with_reducible rfl)
                  simp only [Act.put, List.setIfInBounds_toArray, List.set_cons_zero, List.set_cons_succ]
                  refine wpAnyH_take (i := 41) (oi := { dst := some 141, op := Op.move (Operand.tmp 140), type := 4, pos := "law.go:132", after := #[{ on := 40, ground := Ground.data }, { on := 38, ground := Ground.chain }, { on := 38, ground := Ground.guard }], guard := some (38, false) }) (v := ?v41) rfl (by kernel_rfl) (by kernel_rfl) (by kernel_rfl) (fun _ _ _ h => h) (Or.inl ⟨by rfl, ?y41⟩) (by assumption) ?_
                  case y41 => (intro w hSw; (try dsimp only at hSw); go_simp; try with_reducible rfl)
                  simp only [Act.put, List.setIfInBounds_toArray, List.set_cons_zero, List.set_cons_succ]
                  refine wpAnyH_take (i := 42) (oi := { dst := some 142, op := Op.move (Operand.tmp 3), type := 51, pos := "law.go:132", after := #[{ on := 41, ground := Ground.guard }], guard := some (41, true) }) (v := undef) rfl (by kernel_rfl) (by kernel_rfl) (by kernel_rfl) (fun _ _ _ h => h) (Or.inr ⟨by rfl, rfl⟩) (by assumption) ?_
                  simp only [Act.put, List.setIfInBounds_toArray, List.set_cons_zero, List.set_cons_succ]
                  refine wpAnyH_take (i := 43) (oi := { dst := some 143, op := Op.move (Operand.tmp 10), type := 3, pos := "law.go:132", after := #[{ on := 41, ground := Ground.guard }], guard := some (41, true) }) (v := undef) rfl (by kernel_rfl) (by kernel_rfl) (by kernel_rfl) (fun _ _ _ h => h) (Or.inr ⟨by rfl, rfl⟩) (by assumption) ?_
                  simp only [Act.put, List.setIfInBounds_toArray, List.set_cons_zero, List.set_cons_succ]
                  refine wpAnyH_take (i := 44) (oi := { dst := some 144, op := Op.indexAddr 51 (Operand.tmp 142) (Operand.tmp 143), type := 0, pos := "law.go:132", after := #[{ on := 42, ground := Ground.data }, { on := 43, ground := Ground.data }, { on := 41, ground := Ground.guard }], guard := some (41, true) }) (v := undef) rfl (by kernel_rfl) (by kernel_rfl) (by kernel_rfl) (fun _ _ _ h => h) (Or.inr ⟨by rfl, rfl⟩) (by assumption) ?_
                  simp only [Act.put, List.setIfInBounds_toArray, List.set_cons_zero, List.set_cons_succ]
                  refine wpAnyH_take (i := 45) (oi := { dst := some 145, op := Op.load 22 (Operand.tmp 144), type := 22, pos := "law.go:132", after := #[{ on := 44, ground := Ground.data }, { on := 41, ground := Ground.guard }], guard := some (41, true) }) (v := undef) rfl (by kernel_rfl) (by kernel_rfl) (by kernel_rfl) (fun _ _ _ h => h) (Or.inr ⟨by rfl, rfl⟩) (by assumption) ?_
                  simp only [Act.put, List.setIfInBounds_toArray, List.set_cons_zero, List.set_cons_succ]
                  refine wpAnyH_take (i := 46) (oi := { dst := some 146, op := Op.move (Operand.tmp 11), type := 3, pos := "law.go:132", after := #[{ on := 41, ground := Ground.guard }], guard := some (41, true) }) (v := undef) rfl (by kernel_rfl) (by kernel_rfl) (by kernel_rfl) (fun _ _ _ h => h) (Or.inr ⟨by rfl, rfl⟩) (by assumption) ?_
                  simp only [Act.put, List.setIfInBounds_toArray, List.set_cons_zero, List.set_cons_succ]
                  refine wpAnyH_take (i := 47) (oi := { dst := some 147, op := Op.indexAddr 22 (Operand.tmp 145) (Operand.tmp 146), type := 0, pos := "law.go:132", after := #[{ on := 45, ground := Ground.data }, { on := 46, ground := Ground.data }, { on := 41, ground := Ground.guard }], guard := some (41, true) }) (v := undef) rfl (by kernel_rfl) (by kernel_rfl) (by kernel_rfl) (fun _ _ _ h => h) (Or.inr ⟨by rfl, rfl⟩) (by assumption) ?_
                  simp only [Act.put, List.setIfInBounds_toArray, List.set_cons_zero, List.set_cons_succ]
                  refine wpAnyH_take (i := 48) (oi := { dst := some 148, op := Op.load 9 (Operand.tmp 147), type := 9, pos := "law.go:132", after := #[{ on := 47, ground := Ground.data }, { on := 41, ground := Ground.guard }], guard := some (41, true) }) (v := undef) rfl (by kernel_rfl) (by kernel_rfl) (by kernel_rfl) (fun _ _ _ h => h) (Or.inr ⟨by rfl, rfl⟩) (by assumption) ?_
                  simp only [Act.put, List.setIfInBounds_toArray, List.set_cons_zero, List.set_cons_succ]
                  refine wpAnyH_take (i := 49) (oi := { dst := some 149, op := Op.move (Operand.tmp 3), type := 51, pos := "law.go:132", after := #[{ on := 41, ground := Ground.guard }], guard := some (41, true) }) (v := undef) rfl (by kernel_rfl) (by kernel_rfl) (by kernel_rfl) (fun _ _ _ h => h) (Or.inr ⟨by rfl, rfl⟩) (by assumption) ?_
                  simp only [Act.put, List.setIfInBounds_toArray, List.set_cons_zero, List.set_cons_succ]
                  refine wpAnyH_take (i := 50) (oi := { dst := some 150, op := Op.move (Operand.tmp 10), type := 3, pos := "law.go:132", after := #[{ on := 41, ground := Ground.guard }], guard := some (41, true) }) (v := undef) rfl (by kernel_rfl) (by kernel_rfl) (by kernel_rfl) (fun _ _ _ h => h) (Or.inr ⟨by rfl, rfl⟩) (by assumption) ?_
                  simp only [Act.put, List.setIfInBounds_toArray, List.set_cons_zero, List.set_cons_succ]
                  refine wpAnyH_take (i := 51) (oi := { dst := some 151, op := Op.indexAddr 51 (Operand.tmp 149) (Operand.tmp 150), type := 0, pos := "law.go:132", after := #[{ on := 49, ground := Ground.data }, { on := 50, ground := Ground.data }, { on := 41, ground := Ground.guard }], guard := some (41, true) }) (v := undef) rfl (by kernel_rfl) (by kernel_rfl) (by kernel_rfl) (fun _ _ _ h => h) (Or.inr ⟨by rfl, rfl⟩) (by assumption) ?_
                  simp only [Act.put, List.setIfInBounds_toArray, List.set_cons_zero, List.set_cons_succ]
                  refine wpAnyH_take (i := 52) (oi := { dst := some 152, op := Op.load 22 (Operand.tmp 151), type := 22, pos := "law.go:132", after := #[{ on := 51, ground := Ground.data }, { on := 41, ground := Ground.guard }], guard := some (41, true) }) (v := undef) rfl (by kernel_rfl) (by kernel_rfl) (by kernel_rfl) (fun _ _ _ h => h) (Or.inr ⟨by rfl, rfl⟩) (by assumption) ?_
                  simp only [Act.put, List.setIfInBounds_toArray, List.set_cons_zero, List.set_cons_succ]
                  refine wpAnyH_take (i := 53) (oi := { dst := some 153, op := Op.move (Operand.tmp 11), type := 3, pos := "law.go:132", after := #[{ on := 41, ground := Ground.guard }], guard := some (41, true) }) (v := undef) rfl (by kernel_rfl) (by kernel_rfl) (by kernel_rfl) (fun _ _ _ h => h) (Or.inr ⟨by rfl, rfl⟩) (by assumption) ?_
                  simp only [Act.put, List.setIfInBounds_toArray, List.set_cons_zero, List.set_cons_succ]
                  refine wpAnyH_take (i := 54) (oi := { dst := some 154, op := Op.binOp BinOp.sub 3 (Operand.tmp 153) (Operand.const (Value.int IntKind.i64 1)) 3, type := 3, pos := "law.go:132", after := #[{ on := 53, ground := Ground.data }, { on := 41, ground := Ground.guard }], guard := some (41, true) }) (v := undef) rfl (by kernel_rfl) (by kernel_rfl) (by kernel_rfl) (fun _ _ _ h => h) (Or.inr ⟨by rfl, rfl⟩) (by assumption) ?_
                  simp only [Act.put, List.setIfInBounds_toArray, List.set_cons_zero, List.set_cons_succ]
                  refine wpAnyH_take (i := 55) (oi := { dst := some 155, op := Op.indexAddr 22 (Operand.tmp 152) (Operand.tmp 154), type := 0, pos := "law.go:132", after := #[{ on := 52, ground := Ground.data }, { on := 54, ground := Ground.data }, { on := 41, ground := Ground.guard }], guard := some (41, true) }) (v := undef) rfl (by kernel_rfl) (by kernel_rfl) (by kernel_rfl) (fun _ _ _ h => h) (Or.inr ⟨by rfl, rfl⟩) (by assumption) ?_
                  simp only [Act.put, List.setIfInBounds_toArray, List.set_cons_zero, List.set_cons_succ]
                  refine wpAnyH_take (i := 56) (oi := { dst := some 156, op := Op.load 9 (Operand.tmp 155), type := 9, pos := "law.go:132", after := #[{ on := 55, ground := Ground.data }, { on := 41, ground := Ground.guard }], guard := some (41, true) }) (v := undef) rfl (by kernel_rfl) (by kernel_rfl) (by kernel_rfl) (fun _ _ _ h => h) (Or.inr ⟨by rfl, rfl⟩) (by assumption) ?_
                  simp only [Act.put, List.setIfInBounds_toArray, List.set_cons_zero, List.set_cons_succ]
                  refine wpAnyH_take (i := 57) (oi := { dst := some 157, op := Op.binOp BinOp.leq 9 (Operand.tmp 148) (Operand.tmp 156) 9, type := 4, pos := "law.go:132", after := #[{ on := 48, ground := Ground.data }, { on := 56, ground := Ground.data }, { on := 41, ground := Ground.guard }], guard := some (41, true) }) (v := undef) rfl (by kernel_rfl) (by kernel_rfl) (by kernel_rfl) (fun _ _ _ h => h) (Or.inr ⟨by rfl, rfl⟩) (by assumption) ?_
                  simp only [Act.put, List.setIfInBounds_toArray, List.set_cons_zero, List.set_cons_succ]
                  refine wpAnyH_take (i := 58) (oi := { dst := some 158, op := Op.pick (Operand.tmp 141) (Operand.tmp 157) (Operand.const (Value.bool false)), type := 4, pos := "law.go:132", after := #[{ on := 41, ground := Ground.data }, { on := 57, ground := Ground.data }, { on := 38, ground := Ground.guard }], guard := some (38, false) }) (v := ?v58) rfl (by kernel_rfl) (by kernel_rfl) (by kernel_rfl) (fun _ _ _ h => h) (Or.inl ⟨by rfl, ?y58⟩) (by assumption) ?_
                  case y58 => (intro w hSw; (try dsimp only at hSw); go_simp; try with_reducible rfl)
                  simp only [Act.put, List.setIfInBounds_toArray, List.set_cons_zero, List.set_cons_succ]
                  refine wpAnyH_take (i := 59) (oi := { dst := some 159, op := Op.pick (Operand.tmp 138) (Operand.const (Value.bool true)) (Operand.tmp 158), type := 4, pos := "law.go:132", after := #[{ on := 38, ground := Ground.data }, { on := 58, ground := Ground.data }], guard := none }) (v := ?v59) rfl (by kernel_rfl) (by kernel_rfl) (by kernel_rfl) (fun _ _ _ h => h) (Or.inl ⟨by rfl, ?y59⟩) (by assumption) ?_
                  case y59 => (intro w hSw; (try dsimp only at hSw); go_simp; try with_reducible rfl)
                  simp only [Act.put, List.setIfInBounds_toArray, List.set_cons_zero, List.set_cons_succ]
                  refine wpAnyH_done (by kernel_rfl) ?_ _
                  all_goals
                    go_wp2
                    go_roundw
                    case measure => simp [intOf]; omega
                    case rel => exact ⟨1, hjt, by go_num, HBJ.out.trans (hcur.mono HBJ.out.size)⟩
                · obtain ⟨p, rfl⟩ : ∃ p, j = p + 1 := ⟨j - 1, by omega⟩
                  obtain ⟨z, hz⟩ : ∃ z, g[p]? = some z := ⟨_, List.getElem?_eq_getElem (by omega)⟩
                  obtain ⟨_, ea, cz⟩ := (HROWG.out.below HBJ.out (Nat.le_refl _)) p z hz
                  cases ea
                  have hzy : z < y := by
                    have h := ss_step HR.out.1 p hjt
                    rw [(List.getElem?_eq_some_iff.1 hz).2, (List.getElem?_eq_some_iff.1 hy).2] at h
                    exact h
                  have hb1 : Op.bytesLess (U y).toList (U z).toList = false := by
                    rw [less_U', decide_eq_false_iff_not]
                    exact fun h => Std.lt_irrefl (Std.lt_trans h hzy)
                  have hb2 := beq_U_false (x := y) (y := z) (fun e => by subst e; exact Std.lt_irrefl hzy)
                  have cyz : wi.cell? ⟨ax.block, ax.off + (p + 1), none⟩ = some (.string (U y)) := by
                    have h := cy
                    simp [Addr.add] at h
                    exact h
                  have hpb : p ≤ 1000000 := by omega
                  have iw := wrap_pred p hpb
                  have iw3 := wrap_small p hpb
                  have i3 : (0 : Int) ≤ (p : Int) := by omega
                  have i4 : (p : Int) < (g.length : Int) := by omega
                  have i5 : (0 : Int) ≤ (p : Int) + 1 := by omega
                  have i6 : (p : Int) + 1 < (g.length : Int) := by omega
                  have i7 : (0 : Int) < (p : Int) + 1 := by omega
                  have i8 : (0 : Int) < (g.length : Int) := by omega
                  have m1 := World.block_lt_of_cell? _ _ cgc
                  have m2 := World.block_lt_of_cell? _ _ c0
                  have m3 := World.block_lt_of_cell? _ _ cyz
                  have m4 := World.block_lt_of_cell? _ _ cz
                  have HK := Lib.hid (fun w' (h : Below wi.heap.size wi w') => (⟨h, (h.cell m1).trans cgc, (h.cell m2).trans c0, (h.cell m3).trans cyz, (h.cell m4).trans cz⟩ : Below wi.heap.size wi w' ∧ w'.cell? _ = some (.slice (some ax) g.length cg) ∧ w'.cell? _ = some (.string (U x0)) ∧ w'.cell? _ = some (.string (U y)) ∧ w'.cell? _ = some (.string (U z))))
                  have hcur := (Below.refl wi.heap.size wi).drew
                  clear m1 m2 m3 m4 hzy hz hy cy
                  go_upto_region 27 with (fail)
                  go_region_held3 (fun w' => Below wi.heap.size wi w' ∧ w'.cell? (ag.add q) = some (.slice (some ax) g.length cg) ∧ w'.cell? ax = some (.string (U x0)) ∧ w'.cell? ⟨ax.block, ax.off + (p + 1), none⟩ = some (.string (U y)) ∧ w'.cell? (ax.add p) = some (.string (U z)))
                    (first | exact HK.out _ hcur | exact HK.out _ (below_made _ _) | exact HK.out _ (hcur.alloc hcur.size _))
                    (first
                      | (go_at_call 29; (with_reducible refine ((H29x.out _ _ (below_made _ _) (row_made _ _)).mono ?_)); rintro ee w9 ⟨A9, c9, rr, rfl, hle9, hl9, hr9, hI9, hB9⟩; have HL9 := Lib.hid hle9; have HR9 := Lib.hid hr9; have HI9 := Lib.hid (reach_has hI9 true (iff_of_true rfl HXY.out)); have HN9 := Lib.hid hl9; clear hcur; have hcur := hB9; clear hB9 hle9 hr9 hI9 hl9)
                      | (go_at_call 29; have q1 := hcur.alloc hcur.size (.cells #[.string (U y)] 9); have q2 := from_row w10 y; have q3 := H29y.out _ _ q1 q2; clear q1 q2; refine (q3.mono ?_); clear q3; rintro ee w11 ⟨A11, c11, rr2, rfl, hle9, hl9, hr9, hI9, hB9⟩; have HL11 := Lib.hid hle9; have HR11 := Lib.hid hr9; have HI11 := Lib.hid (reach_has hI9 true (iff_of_true rfl HYX.out)); have HN11 := Lib.hid hl9; clear hcur; have hcur := hB9; clear hB9 hle9 hr9 hI9 hl9)
                      | (go_at_call 19; (with_reducible refine ((has19b HR9.out HL9.out (by have := HN9.out; omega) y true HI9.out).mono ?_)); rintro ee w10 ⟨rfl, hB10⟩; replace hcur := hcur.trans (hB10.mono hcur.size); clear hB10)
                      | (go_at_call 19; (with_reducible refine ((has19b HR11.out HL11.out (by have := HN11.out; omega) x0 true HI11.out).mono ?_)); rintro ee w12 ⟨rfl, hB12⟩; replace hcur := hcur.trans (hB12.mono hcur.size); clear hB12))
                  all_goals
                    go_wp2
                    go_roundw
                    case measure => simp [intOf]; omega
                    case rel => exact ⟨p + 1 + 1, hjt, by go_num, HBJ.out.trans (hcur.mono HBJ.out.size)⟩
              · have hje : j = g.length := by omega
                subst hje
                have l0 := World.block_lt_of_cell? _ _ CG0.out
                have c0 : wr.cell? ax = some (.string (U x0)) := by
                  have h := (HBJ.out.cell l0).trans CG0.out
                  simp [Addr.add] at h
                  exact h
                have hgz : ((g.length : Int) == 0) = false := by rw [beq_eq_false_iff_ne]; omega
                have i8 : (0 : Int) < (g.length : Int) := by omega
                rcases Nat.eq_zero_or_pos q with rfl | hqp
                · have cgz : wr.cell? ag = some (.slice (some ax) g.length cg) := by
                    have h := cgc
                    simp [Addr.add] at h
                    exact h
                  have i9 : (0 : Int) < (gs.length : Int) := by omega
                  go_upto_region 29 with (fail)
                  go_quiet (fail)
                  go_wp2
                  go_roundw
                  case measure => simp [intOf]; omega
                  case rel => exact ⟨1, hqt, by go_num, HBQ.out.trans ((HBJ.out.mono HBQ.out.size).trans ((drawnBelow _ _).mono (Nat.le_trans HBQ.out.size HBJ.out.size)))⟩
                · obtain ⟨p, rfl⟩ : ∃ p, q = p + 1 := ⟨q - 1, by omega⟩
                  obtain ⟨h, hh⟩ : ∃ h, gs[p]? = some h := ⟨_, List.getElem?_eq_getElem (by omega)⟩
                  have hrh := (HI.out.2 h).1 (List.mem_of_getElem? hh)
                  obtain ⟨u, hu⟩ : ∃ u, h[0]? = some u := ⟨_, List.getElem?_eq_getElem (List.length_pos_iff.2 hrh.ne_nil)⟩
                  have hh0 : 0 < h.length := List.length_pos_iff.2 hrh.ne_nil
                  obtain ⟨_, Ah, ch, ea, chh, _, hrowh⟩ := (HG4.out.keep HBQ.out).keep HBJ.out p h hh
                  cases ea
                  obtain ⟨ah, rfl, cu0⟩ := hrowh 0 u hu
                  have cu : wr.cell? ah = some (.string (U u)) := by
                    have h := cu0
                    simp [Addr.add] at h
                    exact h
                  have hux : u < x0 := heads_step HI.out p hqt (x := u) (y := x0) (by rw [(List.getElem?_eq_some_iff.1 hh).2]; exact hu) (by rw [(List.getElem?_eq_some_iff.1 HG.out).2]; exact HX0.out)
                  have hb1 : Op.bytesLess (U x0).toList (U u).toList = false := by
                    rw [less_U', decide_eq_false_iff_not]
                    exact fun h => Std.lt_irrefl (Std.lt_trans h hux)
                  have hb2 := beq_U_false (x := x0) (y := u) (fun e => by subst e; exact Std.lt_irrefl hux)
                  have cgz : wr.cell? ⟨ag.block, ag.off + (p + 1), none⟩ = some (.slice (some ax) g.length cg) := by
                    have h := cgc
                    simp [Addr.add] at h
                    exact h
                  have hpb : p ≤ 1000000 := by omega
                  have iw := wrap_pred p hpb
                  have iw3 := wrap_small p hpb
                  have i3 : (0 : Int) ≤ (p : Int) := by omega
                  have i4 : (p : Int) < (gs.length : Int) := by omega
                  have i5 : (0 : Int) ≤ (p : Int) + 1 := by omega
                  have i6 : (p : Int) + 1 < (gs.length : Int) := by omega
                  have i7 : (0 : Int) < (p : Int) + 1 := by omega
                  have i9 : (0 : Int) < (h.length : Int) := by omega
                  clear hux hh hu hrh hrowh cu0
                  go_upto_region 29 with (fail)
                  go_quiet (fail)
                  go_wp2
                  go_roundw
                  case measure => simp [intOf]; omega
                  case rel => exact ⟨p + 1 + 1, hqt, by go_num, HBQ.out.trans ((HBJ.out.mono HBQ.out.size).trans ((drawnBelow _ _).mono (Nat.le_trans HBQ.out.size HBJ.out.size)))⟩
          · have hqe : q = gs.length := by omega
            subst hqe
            go_wp2_with (go_at_call 26; refine (awake26 _).mono ?_; rintro ee wy ⟨rfl, hBy⟩; have HBY := Lib.hid hBy; clear hBy)
            go_ret
            have hs := HBW4.out.size
            have hs2 := HBQ.out.size
            exact ⟨rfl, HBW4.out.trans ((HBQ.out.mono hs).trans (HBY.out.mono (by omega)))⟩
  · clear hz
    go_enter Try.func7, Try.ntmps7
    go_wp2_with (first
      | (go_at_call 25; refine H25.out.mono ?_; rintro ee w1 ⟨rfl, hB1⟩; have hcur := hB1; clear hB1)
      | (go_at_call 26; refine (awake26 _).mono ?_; rintro ee w2 ⟨rfl, hB2⟩; replace hcur := hcur.trans (hB2.mono hcur.size); clear hB2))
    all_goals
      go_ret
      exact ⟨rfl, hcur⟩
end Go.Proofs.Ytljfknneijmfoaa
