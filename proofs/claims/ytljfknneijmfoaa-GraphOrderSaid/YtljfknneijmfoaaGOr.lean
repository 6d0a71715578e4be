import Derived.Test.YtljfknneijmfoaaO46
import Derived.Test.YtljfknneijmfoaaO48
import Derived.Test.YtljfknneijmfoaaGOrP
import Derived.Test.YtljfknneijmfoaaGWa
namespace Go.Proofs.Ytljfknneijmfoaa
open Go.RowKit Go.Maps Go.WideMaps Go.Lib
open Go.Proofs.YtljfknneijmfoaaW.PrintWords (q_of_own q_slice add_at)

theorem reach_has {E : Es} {f t : S} {rr : List S} (h : IsReach E [f] rr) (b : Bool) (hb : b = true ↔ Conn E f t) : rr.contains t = b := by
  rw [Bool.eq_iff_iff, List.contains_iff_mem, h.2 t, hb]
  constructor
  · rintro ⟨s, hs, hc⟩
    simp at hs
    subst hs
    exact hc
  · exact fun hc => ⟨f, by simp, hc⟩

theorem has19b {w : World} {A : Option Addr} {c : Nat} {l : List S} (h : StrRow w A l) (hc : l.length ≤ c) (hl : l.length ≤ 1000000) (s : S) (b : Bool) (hb : l.contains s = b) :
    Calls Try.prog 19 #[.slice A l.length c, .string (U s)] w fun e w' => e = .returned (.bool b) ∧ Below w.heap.size w w' := by
  subst hb
  exact has19 h hc hl s

theorem node_size {es : List (S × Int × S)} (hz : ∀ e ∈ es, e.1.length ≤ 400 ∧ e.2.2.length ≤ 400) {x : S} (h : ∃ y, (x, y) ∈ ends es ∨ (y, x) ∈ ends es) : x.length ≤ 100000 := by
  obtain ⟨y, h | h⟩ := h
  · obtain ⟨e, he, q⟩ := List.mem_map.1 h
    injection q with q1 q2
    subst q1
    have := (hz e he).1
    omega
  · obtain ⟨e, he, q⟩ := List.mem_map.1 h
    injection q with q1 q2
    subst q2
    have := (hz e he).2
    omega

/-- Reach from one, whose row has just been made. -/
theorem reach_one {A : Option Addr} {cap : Nat} {es : List (S × Int × S)} {w : World} (hE : EdgeRow w A es) (hn : es.length ≤ 100000) (hs : ∀ e ∈ es, e.1.length ≤ 100000 ∧ e.2.2.length ≤ 100000) (f : S) (hf : f.length ≤ 100000) (W : World) (a : Addr) (hB : Below w.heap.size w W) (hR : StrRow W (some a) [f]) :
    Calls Try.prog 29 #[.slice A es.length cap, .slice (some a) 1 1] W fun e w' => ∃ A' c' out, e = .returned (.slice A' out.length c') ∧ out.length ≤ c' ∧ out.length ≤ 300000 ∧ StrRow w' A' out ∧ IsReach (ends es) [f] out ∧ Below w.heap.size w w' :=
  (reach29 A cap es (some a) 1 [f] W (hE.below hB (Nat.le_refl _)) hn hs hR (by simp) (by simpa using hf)).mono fun e w' ⟨A', c', out, h1, h2, h3, h4, h5, h6⟩ => ⟨A', c', out, h1, h2, h3, h4, h5, hB.trans (h6.mono hB.size)⟩

theorem below_made (w : World) (o : Obj) : Below w.heap.size w (w.alloc o).drew := ((Below.refl _ w).alloc (Nat.le_refl _) o).drew

theorem less_U' (x y : S) : Op.bytesLess (U x).toList (U y).toList = decide (x < y) := by rw [toList_U, toList_U, Go.Proofs.bytesLess_eq]

theorem row_made (w : World) (f : S) : StrRow (w.alloc (.cells #[.string (U f)] 9)).drew (some ⟨w.heap.size, 0, none⟩) [f] := (from_row w f).below (Below.refl _ _).drew (Nat.le_refl _)


theorem order_same {es fs : List E3} (h : Alike (ends es) (ends fs)) {xs ys a b : List S} (hx : IsNodes (ends es) xs) (hy : IsNodes (ends fs) ys) (ha : Ord (ends es) xs a) (hb : Ord (ends fs) ys b) : a = b := by
  have e := (h.nodes hx).uniq hy
  subst e
  exact (ha.alike h).uniq hb

theorem sorted_nodes {E : Es} {o xs r ns : List S} (hX : IsNodes E xs) (hO : Ord E xs o) (hr : IsSrt o r) (hN : IsNodes E ns) : r = ns ∧ o.length = ns.length := by
  have e := hX.uniq hN
  subst e
  exact ⟨hr.1.ext hX.1 fun x => (hr.2 x).trans (hO.mem x), hO.length hX.1.nodup⟩

set_option maxRecDepth 100000 in
set_option maxHeartbeats 4000000 in
theorem graphOrder11 (A : Option Addr) (cap : Nat) (es : List (S × Int × S)) (kk : Int) (w : World)
    (h3 : es.length ≤ cap ∧ cap ≤ maxLen ∧ EdgeRow w A es ∧ ∀ e ∈ es, e.1.length ≤ maxLen ∧ e.2.2.length ≤ maxLen ∧ -9223372036854775808 ≤ e.2.1 ∧ e.2.1 ≤ 9223372036854775807)
    (_hkk : -9223372036854775808 ≤ kk ∧ kk ≤ 9223372036854775807) :
    Calls Try.prog 11 #[.slice A es.length cap, .int .i64 kk] w fun ee w' => ee = .returned (.bool true) ∧ Below w.heap.size w w' := by
  obtain ⟨z, hz, h25⟩ := edges25z (A := A) h3.1 h3.2.1 h3.2.2.2
  have H25 := Lib.hid (h25 w h3.2.2.1)
  have HE := Lib.hid h3.2.2.1
  clear h3 h25
  by_cases hz4 : z ≤ 400
  · have HZ := Lib.hid (hz hz4)
    clear hz
    go_enter Try.func11, Try.ntmps11
    go_upto_region 3 with (go_at_call 25; refine H25.out.mono ?_; rintro ee w1 ⟨rfl, hB1⟩; have HB1 := Lib.hid hB1; clear hB1)
    go_upto_region 4 with (go_at_call 46; refine (order46 A cap es _ (HE.out.below HB1.out (Nat.le_refl _)) (by have := HZ.out.1; omega) (fun e he => by have := HZ.out.2 e he; omega)).mono ?_; rintro ee w2 ⟨A5, c5, o, xs, rfl, hle, hl, hR, hX, hO, hB2⟩; have HLE5 := Lib.hid hle; have HL5 := Lib.hid hl; have HR5 := Lib.hid hR; have HX := Lib.hid hX; have HO := Lib.hid hO; have HBW2 := Lib.hid (HB1.out.trans (hB2.mono HB1.out.size)); clear hle hl hR hX hO hB2)
    have HE2 := Lib.hid (HE.out.below HBW2.out (Nat.le_refl _))
    clear H25 HE HB1
    have tok : True := trivial
    go_upto_region 6 with (first
      | (go_at_call 50; refine (sorted50 HR5.out HLE5.out (by have := HL5.out; omega)).mono ?_; rintro ee w3 ⟨A19, c19, r, rfl, hle, hl, hS, hR, hB3⟩; have HLE19 := Lib.hid hle; have HL19 := Lib.hid hl; have HS := Lib.hid hS; have HR19 := Lib.hid hR; have HB3 := Lib.hid hB3; have HE3 := Lib.hid (HE2.out.below hB3 (Nat.le_refl _)); clear hle hl hS hR hB3)
      | (go_at_call 31; have _t := tok; refine (nodes31 A cap es _ HE3.out (by have := HZ.out.1; omega) (fun e he => by have := HZ.out.2 e he; omega)).mono ?_; rintro ee w4 ⟨A21, c21, ns, rfl, hle, hl, hR, hN, hB4⟩; obtain ⟨rfl, hlen⟩ := sorted_nodes HX.out HO.out HS.out hN; have HLE21 := Lib.hid hle; have HR21 := Lib.hid hR; have HN := Lib.hid hN; have HLEN := Lib.hid hlen; have HR194 := Lib.hid (HR19.out.below hB4 (Nat.le_refl _)); have HB4 := Lib.hid (HB3.out.trans (hB4.mono HB3.out.size)); clear hle hl hR hN hB4 hlen tok)
      | (go_at_call 20; refine (texts20 HR194.out HLE19.out HR21.out HLE21.out (by have := HL19.out; have := HL5.out; omega)).mono ?_; rintro ee w5 ⟨rfl, hB5⟩; have HB5 := Lib.hid (HB4.out.trans (hB5.mono HB4.out.size)); clear hB5)
      | (go_at_call 31; refine (nodes31 A cap es _ (HE2.out.below HB5.out (Nat.le_refl _)) (by have := HZ.out.1; omega) (fun e he => by have := HZ.out.2 e he; omega)).mono ?_; rintro ee w6 ⟨A28, c28, ns2, rfl, hle, hl, hR, hN, hB6⟩; obtain rfl := HN.out.uniq hN; have hlen := HLEN.out; have HB6 := Lib.hid (HB5.out.trans (hB6.mono HB5.out.size)); clear hle hl hR hN hB6))
    have hor : r.length = o.length := HLEN.out.symm
    clear hlen
    simp only [hor]
    have HBW6 := Lib.hid (HBW2.out.trans (HB6.out.mono HBW2.out.size))
    have HR6 := Lib.hid (HR5.out.below HB6.out (Nat.le_refl _))
    have HE6 := Lib.hid (HE2.out.below HB6.out (Nat.le_refl _))
    have HBH := Lib.hid HO.out.behind
    have hl5 := HL5.out
    have hn4 := HZ.out.1
    clear HR5 HE2 HBW2 HB6 HB5 HB4 HB3 HR19 HR21 HR194 HE3 hor
    go_wp2
    go_loopw [6] (fun i wr => ∃ k : Nat, k ≤ o.length ∧ i = .int .i64 k ∧ Below w6.heap.size w6 wr) (fun i _ => o.length - (intOf i).toNat)
    case atStart => exact ⟨0, Nat.zero_le _, rfl, Below.refl _ _⟩
    case round =>
      obtain ⟨k, hk, rfl, hbk⟩ := hrel
      have HBK := Lib.hid hbk
      clear hbk
      by_cases hlt : k < o.length
      · obtain ⟨s, hsx⟩ : ∃ s, o[k]? = some s := ⟨_, List.getElem?_eq_getElem hlt⟩
        obtain ⟨ao, ea, hcs⟩ := HR6.out.below HBK.out (Nat.le_refl _) k s hsx
        subst ea
        have hsn : s.length ≤ 100000 := node_size HZ.out.2 ((HX.out.2 s).1 ((HO.out.mem s).1 (List.mem_of_getElem? hsx)))
        have HSX := Lib.hid hsx
        have hkb : k ≤ 1000000 := by omega
        have i1 : (0 : Int) ≤ (k : Int) := by omega
        have i2 : (k : Int) < (o.length : Int) := by omega
        have HEK := Lib.hid (HE6.out.below HBK.out (Nat.le_refl _))
        have HFR := Lib.hid (from_row wr s)
        have hba := (Below.refl _ wr).alloc (Nat.le_refl _) (.cells #[.string (U s)] 9)
        have HBA := Lib.hid hba
        clear hba hsx
        obtain ⟨wo, rfl⟩ : ∃ wo : World, wo = wr := ⟨_, rfl⟩
        go_upto_region 10 with (go_at_call 29; refine (reach_one (A := A) (cap := cap) HEK.out (by omega) (fun e he => by have := HZ.out.2 e he; omega) s hsn _ _ HBA.out HFR.out).mono ?_; rintro ee w7 ⟨A7, c7, rr, rfl, hle7, hl7, hr7, hI7, hB7⟩; have HLE7 := Lib.hid hle7; have HL7 := Lib.hid hl7; have HR7 := Lib.hid hr7; have HI7 := Lib.hid hI7; have HB7 := Lib.hid (HBK.out.trans (hB7.mono HBK.out.size)); clear hle7 hl7 hr7 hI7 hB7)
        go_wp2
        go_loopw [8] (fun i wi => ∃ j : Nat, k < j ∧ j ≤ o.length ∧ i = .int .i64 j ∧ Below w7.heap.size w7 wi) (fun i _ => o.length - (intOf i).toNat)
        case atStart => exact ⟨k + 1, Nat.lt_succ_self _, hlt, by go_num, Below.refl _ _⟩
        case round =>
          obtain ⟨j, hkj, hj, rfl, hbj⟩ := hrel
          have HBJ := Lib.hid hbj
          clear hbj
          by_cases hjt : j < o.length
          · obtain ⟨t, htx⟩ : ∃ t, o[j]? = some t := ⟨_, List.getElem?_eq_getElem hjt⟩
            have HB8 := Lib.hid (HB7.out.trans (HBJ.out.mono HB7.out.size))
            obtain ⟨_, ea, hct⟩ := HR6.out.below HB8.out (Nat.le_refl _) j t htx
            cases ea
            obtain ⟨_, ea, hcs⟩ := HR6.out.below HB8.out (Nat.le_refl _) k s HSX.out
            cases ea
            have htn : t.length ≤ 100000 := node_size HZ.out.2 ((HX.out.2 t).1 ((HO.out.mem t).1 (List.mem_of_getElem? htx)))
            have hjb : j ≤ 1000000 := by omega
            have i3 : (0 : Int) ≤ (j : Int) := by omega
            have i4 : (j : Int) < (o.length : Int) := by omega
            have hbeh : Conn (ends es) s t → Conn (ends es) t s := by
              have h := List.pairwise_iff_getElem.1 HBH.out k j hlt hjt hkj
              rw [(List.getElem?_eq_some_iff.1 HSX.out).2, (List.getElem?_eq_some_iff.1 htx).2] at h
              exact h
            have HR8 := Lib.hid (HR7.out.below HBJ.out (Nat.le_refl _))
            have HEJ := Lib.hid (HE6.out.below HB8.out (Nat.le_refl _))
            have l1 := World.block_lt_of_cell? _ _ hct
            have l2 := World.block_lt_of_cell? _ _ hcs
            obtain ⟨wi, rfl⟩ : ∃ wi : World, wi = wr := ⟨_, rfl⟩
            have HK := Lib.hid (fun w' (h : Below wi.heap.size wi w') => (⟨h, (h.cell l1).trans hct, (h.cell l2).trans hcs⟩ : Below wi.heap.size wi w' ∧ w'.cell? _ = some (.string (U t)) ∧ w'.cell? _ = some (.string (U s))))
            have hcur := (Below.refl wi.heap.size wi).drew
            clear htx l1 l2
            by_cases hcn : Conn (ends es) s t
            · have HC := Lib.hid (hbeh hcn)
              have HRR := Lib.hid (reach_has HI7.out true (iff_of_true rfl hcn))
              have H29 := Lib.hid (fun W a hW hR => reach_one (A := A) (cap := cap) (es := es) HEJ.out (by omega) (fun e he => by have := HZ.out.2 e he; omega) t htn W a hW hR)
              have H19 : Hid (∀ W, Below wi.heap.size wi W → Calls Try.prog 19 #[.slice A7 rr.length c7, .string (U t)] W fun e w' => e = .returned (.bool true) ∧ Below W.heap.size W w') := Lib.hid (fun W hW => has19b (HR8.out.below hW (Nat.le_refl _)) HLE7.out (by have := HL7.out; omega) t true HRR.out)
              clear hbeh hcn
              go_upto_region 13 with (fail)
              go_region_held3 (fun w' => Below wi.heap.size wi w' ∧ w'.cell? (ao.add j) = some (.string (U t)) ∧ w'.cell? (ao.add k) = some (.string (U s)))
                (first | exact HK.out _ hcur | exact HK.out _ (hcur.alloc hcur.size _))
                (first
                  | (go_at_call 19; (with_reducible refine ((H19.out _ hcur).mono ?_)); rintro ee w9 ⟨rfl, hB9⟩; replace hcur := hcur.trans (hB9.mono hcur.size); clear hB9)
                  | (go_at_call 29; have q1 := hcur.alloc hcur.size (.cells #[.string (U t)] 9); have q2 := from_row w9 t; have q3 := H29.out _ _ q1 q2; clear q1 q2; refine (q3.mono ?_); clear q3; rintro ee w10 ⟨A10, c10, rr2, rfl, hle9, hl9, hr9, hI9, hB9⟩; have HL10 := Lib.hid hle9; have HR10 := Lib.hid hr9; have HI10 := Lib.hid (reach_has hI9 true (iff_of_true rfl HC.out)); have HN10 := Lib.hid hl9; clear hcur; have hcur := hB9; clear hB9 hle9 hr9 hI9 hl9)
                  | (go_at_call 19; (with_reducible refine ((has19b HR10.out HL10.out (by have := HN10.out; omega) s true HI10.out).mono ?_)); rintro ee w12 ⟨rfl, hB12⟩; replace hcur := hcur.trans (hB12.mono hcur.size); clear hB12))
              all_goals
                go_wp2
                go_roundw
                case measure => simp [intOf]; omega
                case rel => exact ⟨j + 1, by omega, hjt, by go_num, HBJ.out.trans (hcur.mono HBJ.out.size)⟩
            · have HRR := Lib.hid (reach_has HI7.out false ⟨fun h => (by cases h), fun h => absurd h hcn⟩)
              have H19 : Hid (∀ W, Below wi.heap.size wi W → Calls Try.prog 19 #[.slice A7 rr.length c7, .string (U t)] W fun e w' => e = .returned (.bool false) ∧ Below W.heap.size W w') := Lib.hid (fun W hW => has19b (HR8.out.below hW (Nat.le_refl _)) HLE7.out (by have := HL7.out; omega) t false HRR.out)
              clear hbeh hcn
              go_upto_region 13 with (fail)
              refine wp_region_held_drew (S := (fun w' => Below wi.heap.size wi w' ∧ w'.cell? (ao.add j) = some (.string (U t)) ∧ w'.cell? (ao.add k) = some (.string (U s)))) (by kernel_rfl) (HK.out _ hcur) (fun hHeld => ?_)
              refine wpAnyH_take (i := 0) (oi := { dst := some 53, op := Op.move (Operand.tmp 7), type := 22, pos := "law.go:95", after := #[], guard := none }) (v := ?v0) rfl (by kernel_rfl) (by kernel_rfl) (by kernel_rfl) (fun _ _ _ h => h) (Or.inl ⟨by rfl, ?y0⟩) (by assumption) ?_
              case y0 => (intro w hSw; (try dsimp only at hSw); go_simp; try with_reducible rfl)
              simp only [Act.put, List.setIfInBounds_toArray, List.set_cons_zero, List.set_cons_succ]
              refine wpAnyH_take (i := 1) (oi := { dst := some 54, op := Op.move (Operand.tmp 5), type := 22, pos := "law.go:95", after := #[], guard := none }) (v := ?v1) rfl (by kernel_rfl) (by kernel_rfl) (by kernel_rfl) (fun _ _ _ h => h) (Or.inl ⟨by rfl, ?y1⟩) (by assumption) ?_
              case y1 => (intro w hSw; (try dsimp only at hSw); go_simp; try with_reducible rfl)
              simp only [Act.put, List.setIfInBounds_toArray, List.set_cons_zero, List.set_cons_succ]
              refine wpAnyH_take (i := 2) (oi := { dst := some 55, op := Op.move (Operand.tmp 8), type := 3, pos := "law.go:95", after := #[], guard := none }) (v := ?v2) rfl (by kernel_rfl) (by kernel_rfl) (by kernel_rfl) (fun _ _ _ h => h) (Or.inl ⟨by rfl, ?y2⟩) (by assumption) ?_
              case y2 => (intro w hSw; (try dsimp only at hSw); go_simp; try with_reducible rfl)
              simp only [Act.put, List.setIfInBounds_toArray, List.set_cons_zero, List.set_cons_succ]
              refine wpAnyH_take (i := 3) (oi := { dst := some 56, op := Op.indexAddr 22 (Operand.tmp 54) (Operand.tmp 55), type := 0, pos := "law.go:95", after := #[{ on := 1, ground := Ground.data }, { on := 2, ground := Ground.data }], guard := none }) (v := ?v3) rfl (by kernel_rfl) (by kernel_rfl) (by kernel_rfl) (fun _ _ _ h => h) (Or.inl ⟨by rfl, ?y3⟩) (by assumption) ?_
              case y3 => (intro w hSw; (try dsimp only at hSw); go_simp; try with_reducible rfl)
              simp only [Act.put, List.setIfInBounds_toArray, List.set_cons_zero, List.set_cons_succ]
              refine wpAnyH_take (i := 4) (oi := { dst := some 57, op := Op.load 9 (Operand.tmp 56), type := 9, pos := "law.go:95", after := #[{ on := 3, ground := Ground.data }], guard := none }) (v := ?v4) rfl (by kernel_rfl) (by kernel_rfl) (by kernel_rfl) (fun _ _ _ h => h) (Or.inl ⟨by rfl, ?y4⟩) (by assumption) ?_
              case y4 => (intro w hSw; (try dsimp only at hSw); go_simp; try with_reducible rfl)
              simp only [Act.put, List.setIfInBounds_toArray, List.set_cons_zero, List.set_cons_succ]
              refine wpAnyH_ready (rs := [5]) (by kernel_rfl) (by simp) ?_
              refine AllReadyH.cons (o := { dst := some 58, op := Op.call { callee := Callee.value (Operand.func 19), args := #[Operand.tmp 53, Operand.tmp 57], argTypes := #[22, 9] }, type := 4, pos := "law.go:95", after := #[{ on := 0, ground := Ground.data }, { on := 4, ground := Ground.data }], guard := none }) rfl (fun K hK => ?_) AllReadyH.nil
              go_simp
              (go_at_call 19; (with_reducible refine ((H19.out _ hcur).mono ?_)); rintro ee w9 ⟨rfl, hB9⟩; replace hcur := hcur.trans (hB9.mono hcur.size); clear hB9)
              refine hK.out _ _ (HK.out _ hcur) (fun hHeld => ?_)
              clear hK K
              try simp only [Act.put, List.setIfInBounds_toArray, List.set_cons_zero, List.set_cons_succ]
              refine wpAnyH_take (i := 6) (oi := { dst := some 59, op := Op.move (Operand.tmp 58), type := 4, pos := "law.go:95", after := #[{ on := 5, ground := Ground.data }, { on := 5, ground := Ground.chain }], guard := none }) (v := ?v6) rfl (by kernel_rfl) (by kernel_rfl) (by kernel_rfl) (fun _ _ _ h => h) (Or.inl ⟨by rfl, ?y6⟩) (by assumption) ?_
              case y6 => (intro w hSw; (try dsimp only at hSw); go_simp; try with_reducible rfl)
              simp only [Act.put, List.setIfInBounds_toArray, List.set_cons_zero, List.set_cons_succ]
              refine wpAnyH_take (i := 7) (oi := { dst := some 60, op := Op.move (Operand.tmp 0), type := 24, pos := "law.go:95", after := #[{ on := 6, ground := Ground.guard }], guard := some (6, true) }) (v := undef) rfl (by kernel_rfl) (by kernel_rfl) (by kernel_rfl) (fun _ _ _ h => h) (Or.inr ⟨by rfl, rfl⟩) (by assumption) ?_
              simp only [Act.put, List.setIfInBounds_toArray, List.set_cons_zero, List.set_cons_succ]
              refine wpAnyH_take (i := 8) (oi := { dst := some 61, op := Op.move (Operand.tmp 5), type := 22, pos := "law.go:95", after := #[{ on := 6, ground := Ground.guard }], guard := some (6, true) }) (v := undef) rfl (by kernel_rfl) (by kernel_rfl) (by kernel_rfl) (fun _ _ _ h => h) (Or.inr ⟨by rfl, rfl⟩) (by assumption) ?_
              simp only [Act.put, List.setIfInBounds_toArray, List.set_cons_zero, List.set_cons_succ]
              refine wpAnyH_take (i := 9) (oi := { dst := some 62, op := Op.move (Operand.tmp 8), type := 3, pos := "law.go:95", after := #[{ on := 6, ground := Ground.guard }], guard := some (6, true) }) (v := undef) rfl (by kernel_rfl) (by kernel_rfl) (by kernel_rfl) (fun _ _ _ h => h) (Or.inr ⟨by rfl, rfl⟩) (by assumption) ?_
              simp only [Act.put, List.setIfInBounds_toArray, List.set_cons_zero, List.set_cons_succ]
              refine wpAnyH_take (i := 10) (oi := { dst := some 63, op := Op.indexAddr 22 (Operand.tmp 61) (Operand.tmp 62), type := 0, pos := "law.go:95", after := #[{ on := 8, ground := Ground.data }, { on := 9, ground := Ground.data }, { on := 6, ground := Ground.guard }], guard := some (6, true) }) (v := undef) rfl (by kernel_rfl) (by kernel_rfl) (by kernel_rfl) (fun _ _ _ h => h) (Or.inr ⟨by rfl, rfl⟩) (by assumption) ?_
              simp only [Act.put, List.setIfInBounds_toArray, List.set_cons_zero, List.set_cons_succ]
              refine wpAnyH_take (i := 11) (oi := { dst := some 64, op := Op.load 9 (Operand.tmp 63), type := 9, pos := "law.go:95", after := #[{ on := 10, ground := Ground.data }, { on := 6, ground := Ground.guard }], guard := some (6, true) }) (v := undef) rfl (by kernel_rfl) (by kernel_rfl) (by kernel_rfl) (fun _ _ _ h => h) (Or.inr ⟨by rfl, rfl⟩) (by assumption) ?_
              simp only [Act.put, List.setIfInBounds_toArray, List.set_cons_zero, List.set_cons_succ]
              refine wpAnyH_take (i := 12) (oi := { dst := some 65, op := Op.buildSlice 22 1 #[(0, Operand.tmp 64)], type := 22, pos := "law.go:95", after := #[{ on := 11, ground := Ground.data }, { on := 6, ground := Ground.guard }], guard := some (6, true) }) (v := undef) rfl (by kernel_rfl) (by kernel_rfl) (by kernel_rfl) (fun _ _ _ h => h) (Or.inr ⟨by rfl, rfl⟩) (by assumption) ?_
              simp only [Act.put, List.setIfInBounds_toArray, List.set_cons_zero, List.set_cons_succ]
              refine wpAnyH_take (i := 13) (oi := { dst := some 66, op := Op.call { callee := Callee.value (Operand.func 29), args := #[Operand.tmp 60, Operand.tmp 65], argTypes := #[24, 22] }, type := 22, pos := "law.go:95", after := #[{ on := 7, ground := Ground.data }, { on := 12, ground := Ground.data }, { on := 6, ground := Ground.chain }, { on := 6, ground := Ground.guard }], guard := some (6, true) }) (v := undef) rfl (by kernel_rfl) (by kernel_rfl) (by kernel_rfl) (fun _ _ _ h => h) (Or.inr ⟨by rfl, rfl⟩) (by assumption) ?_
              simp only [Act.put, List.setIfInBounds_toArray, List.set_cons_zero, List.set_cons_succ]
              refine wpAnyH_take (i := 14) (oi := { dst := some 67, op := Op.move (Operand.tmp 5), type := 22, pos := "law.go:95", after := #[{ on := 6, ground := Ground.guard }], guard := some (6, true) }) (v := undef) rfl (by kernel_rfl) (by kernel_rfl) (by kernel_rfl) (fun _ _ _ h => h) (Or.inr ⟨by rfl, rfl⟩) (by assumption) ?_
              simp only [Act.put, List.setIfInBounds_toArray, List.set_cons_zero, List.set_cons_succ]
              refine wpAnyH_take (i := 15) (oi := { dst := some 68, op := Op.move (Operand.tmp 6), type := 3, pos := "law.go:95", after := #[{ on := 6, ground := Ground.guard }], guard := some (6, true) }) (v := undef) rfl (by kernel_rfl) (by kernel_rfl) (by kernel_rfl) (fun _ _ _ h => h) (Or.inr ⟨by rfl, rfl⟩) (by assumption) ?_
              simp only [Act.put, List.setIfInBounds_toArray, List.set_cons_zero, List.set_cons_succ]
              refine wpAnyH_take (i := 16) (oi := { dst := some 69, op := Op.indexAddr 22 (Operand.tmp 67) (Operand.tmp 68), type := 0, pos := "law.go:95", after := #[{ on := 14, ground := Ground.data }, { on := 15, ground := Ground.data }, { on := 6, ground := Ground.guard }], guard := some (6, true) }) (v := undef) rfl (by kernel_rfl) (by kernel_rfl) (by kernel_rfl) (fun _ _ _ h => h) (Or.inr ⟨by rfl, rfl⟩) (by assumption) ?_
              simp only [Act.put, List.setIfInBounds_toArray, List.set_cons_zero, List.set_cons_succ]
              refine wpAnyH_take (i := 17) (oi := { dst := some 70, op := Op.load 9 (Operand.tmp 69), type := 9, pos := "law.go:95", after := #[{ on := 16, ground := Ground.data }, { on := 6, ground := Ground.guard }], guard := some (6, true) }) (v := undef) rfl (by kernel_rfl) (by kernel_rfl) (by kernel_rfl) (fun _ _ _ h => h) (Or.inr ⟨by rfl, rfl⟩) (by assumption) ?_
              simp only [Act.put, List.setIfInBounds_toArray, List.set_cons_zero, List.set_cons_succ]
              refine wpAnyH_take (i := 18) (oi := { dst := some 71, op := Op.call { callee := Callee.value (Operand.func 19), args := #[Operand.tmp 66, Operand.tmp 70], argTypes := #[22, 9] }, type := 4, pos := "law.go:95", after := #[{ on := 13, ground := Ground.data }, { on := 17, ground := Ground.data }, { on := 13, ground := Ground.chain }, { on := 6, ground := Ground.guard }], guard := some (6, true) }) (v := undef) rfl (by kernel_rfl) (by kernel_rfl) (by kernel_rfl) (fun _ _ _ h => h) (Or.inr ⟨by rfl, rfl⟩) (by assumption) ?_
              simp only [Act.put, List.setIfInBounds_toArray, List.set_cons_zero, List.set_cons_succ]
              refine wpAnyH_take (i := 19) (oi := { dst := some 72, op := Op.unOp UnOp.not 4 (Operand.tmp 71), type := 4, pos := "law.go:95", after := #[{ on := 18, ground := Ground.data }, { on := 6, ground := Ground.guard }], guard := some (6, true) }) (v := undef) rfl (by kernel_rfl) (by kernel_rfl) (by kernel_rfl) (fun _ _ _ h => h) (Or.inr ⟨by rfl, rfl⟩) (by assumption) ?_
              simp only [Act.put, List.setIfInBounds_toArray, List.set_cons_zero, List.set_cons_succ]
              refine wpAnyH_take (i := 20) (oi := { dst := some 73, op := Op.pick (Operand.tmp 59) (Operand.tmp 72) (Operand.const (Value.bool false)), type := 4, pos := "law.go:95", after := #[{ on := 6, ground := Ground.data }, { on := 19, ground := Ground.data }], guard := none }) (v := ?v20) rfl (by kernel_rfl) (by kernel_rfl) (by kernel_rfl) (fun _ _ _ h => h) (Or.inl ⟨by rfl, ?y20⟩) (by assumption) ?_
              case y20 => (intro w hSw; (try dsimp only at hSw); go_simp; try with_reducible rfl)
              simp only [Act.put, List.setIfInBounds_toArray, List.set_cons_zero, List.set_cons_succ]
              refine wpAnyH_done (by kernel_rfl) ?_ _
              all_goals
                go_wp2
                go_roundw
                case measure => simp [intOf]; omega
                case rel => exact ⟨j + 1, by omega, hjt, by go_num, HBJ.out.trans (hcur.mono HBJ.out.size)⟩
          · have hje : j = o.length := by omega
            subst hje
            go_wp2
            go_roundw
            case measure => simp [intOf]; omega
            case rel => exact ⟨k + 1, hlt, by go_num, HB7.out.trans (HBJ.out.mono HB7.out.size)⟩
      · have hke : k = o.length := by omega
        subst hke
        have HBW7 := Lib.hid (HBW6.out.trans (HBK.out.mono HBW6.out.size))
        have HE7 := Lib.hid (HE6.out.below HBK.out (Nat.le_refl _))
        have HR7 := Lib.hid (HR6.out.below HBK.out (Nat.le_refl _))
        obtain ⟨i50, hi5, hz50, hz51, hz52⟩ := info_parts info50
        have hc0 : (0 : Int) ≤ kk % ((100 : Nat) : Int) ∧ kk % ((100 : Nat) : Int) < 100 := by omega
        obtain ⟨c, hcc⟩ : ∃ c : Nat, kk % ((100 : Nat) : Int) = (c : Int) := ⟨(kk % ((100 : Nat) : Int)).toNat, by omega⟩
        have hcb : c < 100 := by omega
        have HC := Lib.hid hcc
        clear hcc hc0 HE6 HR6 HBW6
        obtain ⟨wo, rfl⟩ : ∃ wo : World, wo = wr := ⟨_, rfl⟩
        go_wp2
        go_loopw [9, 10] (fun s9 i wr => ∃ (q : Nat) (A9 : Option Addr) (c9 : Nat), q ≤ 2 * es.length ∧ i = .int .i64 q ∧ s9 = .slice A9 q c9 ∧ wr.ownsRow wo.heap.size 50 3 (.slice A9 q c9) q (edgeCells (mk es c q)) ∧ Below wo.heap.size wo wr) (fun _ i _ => 2 * es.length - (intOf i).toNat)
        case atStart => exact ⟨0, none, 0, Nat.zero_le _, rfl, rfl, by simpa [mk, edgeCells] using World.ownsRow_nil wo wo.heap.size 50 3, Below.refl _ _⟩
        case round =>
          obtain ⟨q, A9, c9, hq, rfl, rfl, hown, hbq⟩ := hrel
          have HOWN := Lib.hid hown
          have HBQ := Lib.hid hbq
          clear hown hbq
          have hw2 : IntKind.i64.wrap (2 * (es.length : Int)) = 2 * (es.length : Int) := by rw [IntKind.wrap_i64]; omega
          by_cases hqt : q < 2 * es.length
          · obtain ⟨d, hd⟩ : ∃ d, d = (q + c) % es.length := ⟨_, rfl⟩
            have hdl : d < es.length := by rw [hd]; exact Nat.mod_lt _ (by omega)
            obtain ⟨e, he⟩ : ∃ e, es[d]? = some e := ⟨_, List.getElem?_eq_getElem hdl⟩
            have HMK : Hid (mk es c (q + 1) = mk es c q ++ [(e.1, (q : Int), e.2.2)]) := Lib.hid (mk_succ (by rw [← hd]; exact he))
            obtain ⟨ae, ea, e0, e1, e2⟩ := HE7.out.below HBQ.out (Nat.le_refl _) d e he
            subst ea
            have H51a : Hid (∀ W, Calls Try.prog 51 #[.int .i64 kk, .int .i64 100] W fun e w' => e = .returned (.int .i64 c) ∧ w' = W) := Lib.hid (fun W => by
              have h := round51 kk 100 (by decide) (by decide) W
              rw [HC.out] at h
              exact h)
            have H51b : Hid (∀ W, Calls Try.prog 51 #[.int .i64 ((q : Int) + (c : Int)), .int .i64 es.length] W fun e w' => e = .returned (.int .i64 d) ∧ w' = W) := Lib.hid (fun W => by
              have h := round51 ((q : Int) + (c : Int)) es.length (by omega) (by omega) W
              rw [show ((q : Int) + (c : Int)) % (es.length : Int) = (d : Int) by rw [hd]; simp] at h
              exact h)
            have hqb : q ≤ 1000000 := by omega
            have i1 : (0 : Int) ≤ (d : Int) := by omega
            have i2 : (d : Int) < (es.length : Int) := by omega
            have hw3 : IntKind.i64.wrap ((q : Int) + (c : Int)) = (q : Int) + (c : Int) := by rw [IntKind.wrap_i64]; omega
            clear hd he
            obtain ⟨wi, rfl⟩ : ∃ wi : World, wi = wr := ⟨_, rfl⟩
            have tok : True := trivial
            go_upto_region 20 with (first
              | (go_at_call 51; have _t := tok; (with_reducible refine ((H51a.out _).mono ?_)); rintro ee w9 ⟨rfl, rfl⟩; clear tok)
              | (go_at_call 51; (with_reducible refine ((H51b.out _).mono ?_)); rintro ee w10 ⟨rfl, rfl⟩))
            obtain ⟨w11, hw11⟩ : ∃ w11, w11 = w10.alloc (.cells #[.string (U e.1), .int .i64 e.2.1, .string (U e.2.2)] 50) := ⟨_, rfl⟩
            rw [← hw11]
            have hb11 : Below w10.heap.size w10 w11 := by rw [hw11]; exact (Below.refl _ w10).alloc (Nat.le_refl _) _
            have hn11 : w11.heap[w10.heap.size]? = some (.cells #[.string (U e.1), .int .i64 e.2.1, .string (U e.2.2)] 50) := by rw [hw11]; exact heap_alloc_new w10 _
            have k0 := cell_of_block (j := 0) hn11 rfl
            have k2 := cell_of_block (j := 2) hn11 rfl
            have HO11 := Lib.hid (own_below HOWN.out hb11 (Nat.le_refl _))
            have HB11 := Lib.hid (HBQ.out.trans (hb11.mono HBQ.out.size))
            have z11 := hb11.size
            have zq := HBQ.out.size
            clear hw11 hn11 hb11 e0 e1 e2
            go_wp2_with (at_builtin; refine wpList_append_lies _ (by rfl) _ _ _ (by rfl) wo.heap.size 50 i50 _ 3 40 Try.underlying24 hi5 hz50 hz51 hz52 rfl (by omega) (.slice A9 q c9) _ _ (by rfl) (HO11.out.alloc _) ⟨w11.heap.size, 0, none⟩ 1 1 [.string (U e.1), .int .i64 q, .string (U e.2.2)] (by rfl) (by rfl) (World.news_of_block (cs := #[.string (U e.1), .int .i64 q, .string (U e.2.2)]) (t := 50) (fr := (0, 0)) (heap_alloc_new w11 _)) (by simp [Value.oneCell']) (by omega) (by unfold maxLen; omega) (by omega) (by simp; omega) (w11.heap.size + 1) (by simp) ?_; intro gg cap' w12 hown12 hgrow12 hat12 hlt12; have HO12 := Lib.hid hown12; have HG12 := Lib.hid hgrow12; clear hown12 hgrow12 hat12 hlt12)
            go_roundw
            case measure => simp [intOf]; omega
            case rel =>
              refine ⟨q + 1, some ⟨gg, 0, none⟩, cap', hqt, by go_num, rfl, ?_, ?_⟩
              · rw [HMK.out, edgeCells_snoc]
                exact HO12.out
              · exact (HB11.out.alloc HB11.out.size (.cells #[.string (U e.1), .int .i64 q, .string (U e.2.2)] 50)).grown HG12.out (by rw [World.size_alloc]; omega) (fun b hb => (HO11.out.lt b hb).1)
          · obtain ⟨M, hM⟩ : ∃ M, M = mk es c (2 * es.length) := ⟨_, rfl⟩
            have hML : M.length = 2 * es.length := by rw [hM, mk_length]
            have hAl : Alike (ends M) (ends es) := by rw [hM]; exact mk_alike es c
            have hMs : ∀ e ∈ M, e.1.length ≤ 400 ∧ e.2.2.length ≤ 400 := fun e he => by
              have h0 : 0 < es.length := by
                have := List.length_pos_of_mem he
                omega
              rw [hM] at he
              obtain ⟨x, hx, e1, e2⟩ := mk_mem he h0
              rw [e1, e2]
              exact HZ.out.2 x hx
            have hqe : q = M.length := by omega
            have hown := HOWN.out
            rw [show mk es c q = M by rw [hM, ← hML, hqe]] at hown
            subst hqe
            have HEM := Lib.hid (edge_of_own hown)
            have HAL := Lib.hid hAl
            have HMS := Lib.hid hMs
            have hm8 : M.length ≤ 800 := by omega
            have hnlt : ¬ ((M.length : Int) < 2 * (es.length : Int)) := by omega
            have HEW := Lib.hid (HE7.out.below HBQ.out (Nat.le_refl _))
            have HRW := Lib.hid (HR7.out.below HBQ.out (Nat.le_refl _))
            have HBWW := Lib.hid (HBW7.out.trans (HBQ.out.mono HBW7.out.size))
            have hcur := Below.refl wr.heap.size wr
            obtain ⟨wz, rfl⟩ : ∃ wz : World, wz = wr := ⟨_, rfl⟩
            clear hML hAl hMs hown hM HOWN
            have tok : True := trivial
            have tok2 : True := trivial
            go_wp2_with (first
              | (go_at_call 46; refine (order46 A9 c9 M _ (HEM.out.below hcur (Nat.le_refl _)) (by omega) (fun e he => by have := HMS.out e he; omega)).mono ?_; rintro ee w13 ⟨A46, c46, o2, xs2, rfl, hle, hl, hR, hX2, hO2, hB13⟩; obtain rfl := order_same HAL.out hX2 HX.out hO2 HO.out; have HLE46 := Lib.hid hle; have HR46 := Lib.hid hR; replace hcur := hcur.trans (hB13.mono hcur.size); clear hle hl hR hX2 hO2 hB13)
              | (go_at_call 20; refine (texts20 HR46.out HLE46.out (HRW.out.below hcur (Nat.le_refl _)) HLE5.out (by omega)).mono ?_; rintro ee w14 ⟨rfl, hB14⟩; replace hcur := hcur.trans (hB14.mono hcur.size); clear hB14)
              | (go_at_call 48; have _t := tok; refine (dot48 A9 c9 M _ (HEM.out.below hcur (Nat.le_refl _)) (by omega) (fun e he => by have := HMS.out e he; omega)).mono ?_; rintro ee w15 ⟨x, rfl, hD, hxl, hB15⟩; have HD := Lib.hid hD; replace hcur := hcur.trans (hB15.mono hcur.size); clear hD hxl hB15 tok)
              | (go_at_call 48; refine (dot48 _ cap es _ (HEW.out.below hcur (Nat.le_refl _)) (by omega) (fun e he => by have := HZ.out.2 e he; omega)).mono ?_; rintro ee w16 ⟨x2, rfl, hD2, hxl2, hB16⟩; obtain rfl := (HD.out.alike HAL.out).uniq hD2; replace hcur := hcur.trans (hB16.mono hcur.size); clear hD2 hxl2 hB16)
              | (go_at_call 30; have _t := tok2; refine (rings30 A9 c9 M _ (HEM.out.below hcur (Nat.le_refl _)) (by omega) (fun e he => by have := HMS.out e he; omega)).mono ?_; rintro ee w17 ⟨A17, c17, gs, rfl, hle17, hl17, hR17, hI17, hB17⟩; have HI17 := Lib.hid hI17; replace hcur := hcur.trans (hB17.mono hcur.size); clear hle17 hl17 hR17 hI17 hB17 tok2)
              | (go_at_call 30; refine (rings30 _ cap es _ (HEW.out.below hcur (Nat.le_refl _)) (by omega) (fun e he => by have := HZ.out.2 e he; omega)).mono ?_; rintro ee w18 ⟨A18, c18, gs2, rfl, hle18, hl18, hR18, hI18, hB18⟩; obtain rfl := (HI17.out.alike HAL.out).uniq hI18; replace hcur := hcur.trans (hB18.mono hcur.size); clear hle18 hl18 hR18 hI18 hB18)
              | (go_at_call 26; refine (awake26 _).mono ?_; rintro ee w19 ⟨rfl, hB19⟩; replace hcur := hcur.trans (hB19.mono hcur.size); clear hB19))
            all_goals
              go_ret
              exact ⟨rfl, HBWW.out.trans (hcur.mono HBWW.out.size)⟩
  · clear hz
    go_enter Try.func11, Try.ntmps11
    go_wp2_with (first
      | (go_at_call 25; refine H25.out.mono ?_; rintro ee w1 ⟨rfl, hB1⟩; have hcur := hB1; clear hB1)
      | (go_at_call 26; refine (awake26 _).mono ?_; rintro ee w2 ⟨rfl, hB2⟩; replace hcur := hcur.trans (hB2.mono hcur.size); clear hB2))
    all_goals
      go_ret
      exact ⟨rfl, hcur⟩
end Go.Proofs.Ytljfknneijmfoaa
