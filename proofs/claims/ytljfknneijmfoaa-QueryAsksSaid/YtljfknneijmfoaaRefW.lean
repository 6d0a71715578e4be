import Derived.Test.YtljfknneijmfoaaRefs
namespace Go.Proofs.Ytljfknneijmfoaa
open Go.RowKit Go.Maps Go.WideMaps Go.Lib
open Go.Proofs.YtljfknneijmfoaaW.PrintWords (q_of_own q_slice)

set_option maxRecDepth 100000 in
set_option maxHeartbeats 2000000 in
/-- The reference's Who. -/
theorem refWho23 (e : S) (As : Option Addr) (cs : Nat) (Ar : Option Addr) (cr : Nat) (Ae : Option Addr) (ce : Nat) (Ah : Option Addr) (ch : Nat) (Ai : Option Addr) (ci : Nat) (rows : List (S × List Int)) (sites : List S) (es : List (S × Int × S)) (reach inits : List S) (site : S) (w : World)
    (h1 : sites.length ≤ cs ∧ StrRow w As sites ∧ sites.length ≤ 9223372036854775807) (h2 : rows.length ≤ cr ∧ SetRow w Ar rows) (h3 : es.length ≤ ce ∧ EdgeRow w Ae es ∧ es.length ≤ 9223372036854775807) (h4 : reach.length ≤ ch ∧ StrRow w Ah reach ∧ reach.length ≤ 9223372036854775807) (h5 : inits.length ≤ ci ∧ StrRow w Ai inits ∧ inits.length ≤ 9223372036854775807) (hsz : sizesR rows ≤ 2000) :
    Calls Try.prog 23 #[.agg (repV e As sites.length cs Ar rows.length cr (.slice Ae es.length ce) (.slice Ah reach.length ch) (.slice Ai inits.length ci)), .string (U site)] w fun ee w' => ∃ A c, ee = .returned (.slice A (whoOf sites rows site rows).length c) ∧ (whoOf sites rows site rows).length ≤ c ∧ StrRow w' A (whoOf sites rows site rows) ∧
      Below w.heap.size w w' := by
  obtain ⟨i9, hi9, hz90, hz91, hz92⟩ := info_parts info9
  have hn := (sizesR_length hsz).1
  have HPW := Lib.hid (fun W (hB : Below w.heap.size w W) v => refPointsW e As cs Ar cr Ae ce Ah ch Ai ci rows sites es reach inits W ⟨h1.1, h1.2.1.below hB (Nat.le_refl _), h1.2.2⟩ ⟨h2.1, h2.2.below hB (Nat.le_refl _)⟩ ⟨h3.1, h3.2.1.below hB (Nat.le_refl _), h3.2.2⟩ ⟨h4.1, h4.2.1.below hB (Nat.le_refl _), h4.2.2⟩ ⟨h5.1, h5.2.1.below hB (Nat.le_refl _), h5.2.2⟩ hsz v)
  have HR := Lib.hid h2.2
  have HSZ := Lib.hid hsz
  clear h1 h2 h3 h4 h5 hsz
  unfold repV at *
  go_enter Try.func23, Try.ntmps23
  go_upto_region 1 with (fail)
  obtain ⟨w1, hw1⟩ : ∃ w1, w1 = w.alloc (.cells #[.string (U e), .slice As sites.length cs, .slice Ar rows.length cr, .slice Ae es.length ce, .slice Ah reach.length ch, .slice Ai inits.length ci] 26) := ⟨_, rfl⟩
  rw [← hw1]
  have hb1 : Below w.heap.size w w1 := by rw [hw1]; exact (Below.refl _ w).alloc (Nat.le_refl _) _
  have hz1 : w1.heap.size = w.heap.size + 1 := by rw [hw1]; exact World.size_alloc _ _
  have hc1 : w1.heap[w.heap.size]? = some (.cells #[.string (U e), .slice As sites.length cs, .slice Ar rows.length cr, .slice Ae es.length ce, .slice Ah reach.length ch, .slice Ai inits.length ci] 26) := by rw [hw1]; exact block_new _ _
  have HB1 := Lib.hid hb1
  have HZ1 := Lib.hid hz1
  have HC1 := Lib.hid hc1
  have HR1 := Lib.hid (HR.out.below hb1 (Nat.le_refl _))
  clear hb1 hz1 hc1 hw1 HR
  go_wp2
  go_loopw [5, 6] (fun s5 i wr => ∃ (k : Nat) (A4 : Option Addr) (c4 : Nat), k ≤ rows.length ∧ i = .int .i64 k ∧ s5 = .slice A4 (whoOf sites rows site (rows.take k)).length c4 ∧ (whoOf sites rows site (rows.take k)).length ≤ c4 ∧
    wr.ownsRow w1.heap.size 9 1 (.slice A4 (whoOf sites rows site (rows.take k)).length c4) (whoOf sites rows site (rows.take k)).length ((whoOf sites rows site (rows.take k)).map encStr) ∧ Below w1.heap.size w1 wr) (fun _ i _ => rows.length - (intOf i).toNat)
  case atStart =>
    refine ⟨0, none, 0, Nat.zero_le _, rfl, ?_, ?_, ?_, Below.refl _ _⟩
    · simp [whoOf]
    · simp [whoOf]
    · simpa [whoOf] using World.ownsRow_nil w1 w1.heap.size 9 1
  case round =>
    obtain ⟨k, A4, c4, hk, rfl, rfl, hle4, hown, hB⟩ := hrel
    have HOWN := Lib.hid hown
    have HB := Lib.hid hB
    have HLE4 := Lib.hid hle4
    have hcr := (hB.block w.heap.size (by have := HZ1.out; omega)).trans HC1.out
    have HKR := Lib.hid (fun w' (h : Below wr.heap.size wr w') => keep6 hcr h)
    obtain ⟨hq, l0, l1, l2, l3, l4, l5⟩ := HKR.out wr (Below.refl _ wr)
    have HPR := Lib.hid (fun W (h : Below wr.heap.size wr W) v => HPW.out wr (HB1.out.trans (hB.mono HB1.out.size)) v W h)
    clear hown hB hcr hle4
    by_cases hlt : k < rows.length
    · obtain ⟨⟨rv, rz⟩, hr⟩ : ∃ r, rows[k]? = some r := ⟨_, List.getElem?_eq_getElem hlt⟩
      obtain ⟨ad, Az, cz, rfl, h0, _, _, _⟩ := (HR1.out.below HB.out (Nat.le_refl _)) k _ hr
      dsimp only at h0
      have lt0 := World.block_lt_of_cell? wr _ h0
      have HKX := Lib.hid (fun w' (h : Below wr.heap.size wr w') => (h.cell lt0).trans h0)
      have hkb : k ≤ 1000000 := by omega
      have hps := whoOf_snoc sites rows site k _ hr
      dsimp only at hps
      have HPS := Lib.hid hps
      have hwl := whoOf_len sites rows site (rows.take k)
      rw [List.length_take] at hwl
      have HOA := Lib.hid (show StrRow wr A4 (whoOf sites rows site (rows.take k)) from row_q (q_of_own HOWN.out))
      obtain ⟨ac, hac⟩ : ∃ ac, ac = whoOf sites rows site (rows.take k) := ⟨_, rfl⟩
      rw [← hac] at HPS HOA HOWN HLE4 hwl
      have hal : ac.length ≤ 2000 := by omega
      simp only [← hac]
      clear hps hr lt0 hac hwl
      go_upto_region 5 with (fail)
      have tok : True := trivial
      by_cases hh : holdsSite sites rows site rv = true
      · have HH := Lib.hid hh
        clear hh
        by_cases hc : ac.contains rv = true
        · have HC := Lib.hid hc
          clear hc
          go_region_held3 (fun w' => Below wr.heap.size wr w' ∧ w'.cell? ⟨w.heap.size, 0, none⟩ = some (.string (U e)) ∧ w'.cell? ⟨w.heap.size, 1, none⟩ = some (.slice As sites.length cs) ∧ w'.cell? ⟨w.heap.size, 2, none⟩ = some (.slice (some ad) rows.length cr) ∧
              w'.cell? ⟨w.heap.size, 3, none⟩ = some (.slice Ae es.length ce) ∧ w'.cell? ⟨w.heap.size, 4, none⟩ = some (.slice Ah reach.length ch) ∧ w'.cell? ⟨w.heap.size, 5, none⟩ = some (.slice Ai inits.length ci) ∧ w'.cell? (ad.add (k * 2)) = some (.string (U rv)))
            (first
              | (exact ⟨hq.drew, (HKR.out _ hq.drew).2.1, (HKR.out _ hq.drew).2.2.1, (HKR.out _ hq.drew).2.2.2.1, (HKR.out _ hq.drew).2.2.2.2.1, (HKR.out _ hq.drew).2.2.2.2.2.1, (HKR.out _ hq.drew).2.2.2.2.2.2, HKX.out _ hq.drew⟩)
              | (exact ⟨hB9, (HKR.out _ hB9).2.1, (HKR.out _ hB9).2.2.1, (HKR.out _ hB9).2.2.2.1, (HKR.out _ hB9).2.2.2.2.1, (HKR.out _ hB9).2.2.2.2.2.1, (HKR.out _ hB9).2.2.2.2.2.2, HKX.out _ hB9⟩)
              | (exact ⟨hB10, (HKR.out _ hB10).2.1, (HKR.out _ hB10).2.2.1, (HKR.out _ hB10).2.2.2.1, (HKR.out _ hB10).2.2.2.2.1, (HKR.out _ hB10).2.2.2.2.2.1, (HKR.out _ hB10).2.2.2.2.2.2, HKX.out _ hB10⟩))
            (first
              | (go_at_call 21; go_split_ands; (with_reducible refine ((HPR.out _ (by assumption) _).mono ?_)); rintro ee w9 ⟨A9, c9, xs9, rfl, hle9, hle9', hstr9, hz9, hB9⟩; have HLE9 := Lib.hid hle9; have HSTR9 := Lib.hid hstr9; have HZ9 := Lib.hid hz9; clear hle9 hstr9 hz9)
              | (go_at_call 19; have _t := tok; (with_reducible refine ((has19 HSTR9.out HLE9.out hle9' site).mono ?_)); rw [points_contains HZ9.out site, HH.out]; rintro ee w10 ⟨rfl, hB10'⟩; have hB10 := hB9.trans (hB10'.mono hB9.size); clear hB10' tok hB9)
              | (go_at_call 19; (with_reducible refine ((has19 (HOA.out.below hB10 (Nat.le_refl _)) HLE4.out (by omega) rv).mono ?_)); rw [HC.out]; rintro ee w11 ⟨rfl, hB11'⟩; have hB9 := hB10.trans (hB11'.mono hB10.size); clear hB11'))
          all_goals
            go_wp2
            go_roundw
            case measure => simp [intOf]; omega
            case rel =>
              have hps := HPS.out
              rw [HH.out, HC.out] at hps
              simp only [Bool.not_true, Bool.and_false, Bool.false_eq_true, if_false] at hps
              refine ⟨k + 1, A4, c4, hlt, by go_num, by rw [hps], by rw [hps]; exact HLE4.out, ?_, HB.out.trans (hB9.mono HB.out.size)⟩
              rw [hps]
              exact own_below HOWN.out hB9 (Nat.le_refl _)
        · have hc : ac.contains rv = false := by simpa using hc
          have HC := Lib.hid hc
          clear hc
          go_region_held3 (fun w' => Below wr.heap.size wr w' ∧ w'.cell? ⟨w.heap.size, 0, none⟩ = some (.string (U e)) ∧ w'.cell? ⟨w.heap.size, 1, none⟩ = some (.slice As sites.length cs) ∧ w'.cell? ⟨w.heap.size, 2, none⟩ = some (.slice (some ad) rows.length cr) ∧
              w'.cell? ⟨w.heap.size, 3, none⟩ = some (.slice Ae es.length ce) ∧ w'.cell? ⟨w.heap.size, 4, none⟩ = some (.slice Ah reach.length ch) ∧ w'.cell? ⟨w.heap.size, 5, none⟩ = some (.slice Ai inits.length ci) ∧ w'.cell? (ad.add (k * 2)) = some (.string (U rv)))
            (first
              | (exact ⟨hq.drew, (HKR.out _ hq.drew).2.1, (HKR.out _ hq.drew).2.2.1, (HKR.out _ hq.drew).2.2.2.1, (HKR.out _ hq.drew).2.2.2.2.1, (HKR.out _ hq.drew).2.2.2.2.2.1, (HKR.out _ hq.drew).2.2.2.2.2.2, HKX.out _ hq.drew⟩)
              | (exact ⟨hB9, (HKR.out _ hB9).2.1, (HKR.out _ hB9).2.2.1, (HKR.out _ hB9).2.2.2.1, (HKR.out _ hB9).2.2.2.2.1, (HKR.out _ hB9).2.2.2.2.2.1, (HKR.out _ hB9).2.2.2.2.2.2, HKX.out _ hB9⟩)
              | (exact ⟨hB10, (HKR.out _ hB10).2.1, (HKR.out _ hB10).2.2.1, (HKR.out _ hB10).2.2.2.1, (HKR.out _ hB10).2.2.2.2.1, (HKR.out _ hB10).2.2.2.2.2.1, (HKR.out _ hB10).2.2.2.2.2.2, HKX.out _ hB10⟩))
            (first
              | (go_at_call 21; go_split_ands; (with_reducible refine ((HPR.out _ (by assumption) _).mono ?_)); rintro ee w9 ⟨A9, c9, xs9, rfl, hle9, hle9', hstr9, hz9, hB9⟩; have HLE9 := Lib.hid hle9; have HSTR9 := Lib.hid hstr9; have HZ9 := Lib.hid hz9; clear hle9 hstr9 hz9)
              | (go_at_call 19; have _t := tok; (with_reducible refine ((has19 HSTR9.out HLE9.out hle9' site).mono ?_)); rw [points_contains HZ9.out site, HH.out]; rintro ee w10 ⟨rfl, hB10'⟩; have hB10 := hB9.trans (hB10'.mono hB9.size); clear hB10' tok hB9)
              | (go_at_call 19; (with_reducible refine ((has19 (HOA.out.below hB10 (Nat.le_refl _)) HLE4.out (by omega) rv).mono ?_)); rw [HC.out]; rintro ee w11 ⟨rfl, hB11'⟩; have hB9 := hB10.trans (hB11'.mono hB10.size); clear hB11'))
          all_goals
            have HB9 := Lib.hid hB9
            have HO2 := Lib.hid (own_below HOWN.out hB9 (Nat.le_refl _))
            have HBT := Lib.hid (HB.out.trans (hB9.mono HB.out.size))
            clear l0 l1 l2 l3 l4 l5 h0
            go_split_ands
            go_wp2_with (at_builtin; refine wpList_append_lies _ (by rfl) _ _ _ (by rfl) w1.heap.size 9 i9 _ 1 16 Try.underlying22 hi9 hz90 hz91 hz92 rfl (by omega) (.slice A4 ac.length c4) _ _ (by rfl) (HO2.out.alloc _) ⟨w11.heap.size, 0, none⟩ 1 1 [.string (U rv)] (by rfl) (by rfl) (World.news_of_block (cs := #[.string (U rv)]) (t := 9) (fr := (0, 0)) (heap_alloc_new w11 _)) (by simp [Value.oneCell']) (by omega) (by unfold maxLen; omega) (by omega) (by have := HBT.out.size; simp; omega) (w11.heap.size + 1) (by simp) ?_; intro gg cap' w5 hown5 hgrow hat hlt5; have HO5 := Lib.hid hown5; have HG5 := Lib.hid hgrow; clear hown5 hgrow hat hlt5)
            go_roundw
            case measure => simp [intOf]; omega
            case rel =>
              have hps := HPS.out
              rw [HH.out, HC.out] at hps
              simp only [Bool.not_false, Bool.and_true, if_true] at hps
              have h5 := HO5.out
              obtain ⟨_, _, he5, hle5⟩ := q_slice (q_of_own h5)
              injection he5 with _ _ he5
              subst he5
              refine ⟨k + 1, some ⟨gg, 0, none⟩, cap', hlt, by go_num, by rw [hps]; simp, by rw [hps]; simpa using hle5, ?_, ?_⟩
              · rw [hps]
                simpa [enc_U] using h5
              · have hb := HBT.out.alloc HBT.out.size (.cells #[.string (U rv)] 9)
                exact hb.grown HG5.out hb.size (fun q hq => (HO2.out.lt q hq).1)
      · have hh : holdsSite sites rows site rv = false := by simpa using hh
        have HH := Lib.hid hh
        clear hh
        refine wp_region_held_drew (S := (fun w' => Below wr.heap.size wr w' ∧ w'.cell? ⟨w.heap.size, 0, none⟩ = some (.string (U e)) ∧ w'.cell? ⟨w.heap.size, 1, none⟩ = some (.slice As sites.length cs) ∧ w'.cell? ⟨w.heap.size, 2, none⟩ = some (.slice (some ad) rows.length cr) ∧ w'.cell? ⟨w.heap.size, 3, none⟩ = some (.slice Ae es.length ce) ∧ w'.cell? ⟨w.heap.size, 4, none⟩ = some (.slice Ah reach.length ch) ∧ w'.cell? ⟨w.heap.size, 5, none⟩ = some (.slice Ai inits.length ci) ∧ w'.cell? (ad.add (k * 2)) = some (.string (U rv)))) (by kernel_rfl) ⟨hq.drew, (HKR.out _ hq.drew).2.1, (HKR.out _ hq.drew).2.2.1, (HKR.out _ hq.drew).2.2.2.1, (HKR.out _ hq.drew).2.2.2.2.1, (HKR.out _ hq.drew).2.2.2.2.2.1, (HKR.out _ hq.drew).2.2.2.2.2.2, HKX.out _ hq.drew⟩ (fun hHeld => ?_)
        refine wpAnyH_take (i := 0) (oi := { dst := some 14, op := Op.load 26 (Operand.tmp 2), type := 26, pos := "report.go:327", after := #[], guard := none }) (v := ?v0) rfl (by kernel_rfl) (by kernel_rfl) (by kernel_rfl) (fun _ _ _ h => h) (Or.inl ⟨by rfl, ?y0⟩) (by assumption) ?_
        case y0 => (intro w hSw; (try dsimp only at hSw); go_simp; try with_reducible rfl)
        simp only [Act.put, List.setIfInBounds_toArray, List.set_cons_zero, List.set_cons_succ]
        refine wpAnyH_take (i := 1) (oi := { dst := some 15, op := Op.fieldAddr 26 (Operand.tmp 2) 2, type := 0, pos := "report.go:327", after := #[], guard := none }) (v := ?v1) rfl (by kernel_rfl) (by kernel_rfl) (by kernel_rfl) (fun _ _ _ h => h) (Or.inl ⟨by rfl, ?y1⟩) (by assumption) ?_
        case y1 => (intro w hSw; (try dsimp only at hSw); go_simp; try with_reducible rfl)
        simp only [Act.put, List.setIfInBounds_toArray, List.set_cons_zero, List.set_cons_succ]
        refine wpAnyH_take (i := 2) (oi := { dst := some 16, op := Op.load 23 (Operand.tmp 15), type := 23, pos := "report.go:327", after := #[{ on := 1, ground := Ground.data }], guard := none }) (v := ?v2) rfl (by kernel_rfl) (by kernel_rfl) (by kernel_rfl) (fun _ _ _ h => h) (Or.inl ⟨by rfl, ?y2⟩) (by assumption) ?_
        case y2 => (intro w hSw; (try dsimp only at hSw); go_simp; try with_reducible rfl)
        simp only [Act.put, List.setIfInBounds_toArray, List.set_cons_zero, List.set_cons_succ]
        refine wpAnyH_take (i := 3) (oi := { dst := some 17, op := Op.move (Operand.tmp 6), type := 3, pos := "report.go:327", after := #[], guard := none }) (v := ?v3) rfl (by kernel_rfl) (by kernel_rfl) (by kernel_rfl) (fun _ _ _ h => h) (Or.inl ⟨by rfl, ?y3⟩) (by assumption) ?_
        case y3 => (intro w hSw; (try dsimp only at hSw); go_simp; try with_reducible rfl)
        simp only [Act.put, List.setIfInBounds_toArray, List.set_cons_zero, List.set_cons_succ]
        refine wpAnyH_take (i := 4) (oi := { dst := some 18, op := Op.indexAddr 23 (Operand.tmp 16) (Operand.tmp 17), type := 0, pos := "report.go:327", after := #[{ on := 2, ground := Ground.data }, { on := 3, ground := Ground.data }], guard := none }) (v := ?v4) rfl (by kernel_rfl) (by kernel_rfl) (by kernel_rfl) (fun _ _ _ h => h) (Or.inl ⟨by rfl, ?y4⟩) (by assumption) ?_
        case y4 => (intro w hSw; (try dsimp only at hSw); go_simp; try with_reducible rfl)
        simp only [Act.put, List.setIfInBounds_toArray, List.set_cons_zero, List.set_cons_succ]
        refine wpAnyH_take (i := 5) (oi := { dst := some 19, op := Op.fieldAddr 74 (Operand.tmp 18) 0, type := 0, pos := "report.go:327", after := #[{ on := 4, ground := Ground.data }], guard := none }) (v := ?v5) rfl (by kernel_rfl) (by kernel_rfl) (by kernel_rfl) (fun _ _ _ h => h) (Or.inl ⟨by rfl, ?y5⟩) (by assumption) ?_
        case y5 => (intro w hSw; (try dsimp only at hSw); go_simp; try with_reducible rfl)
        simp only [Act.put, List.setIfInBounds_toArray, List.set_cons_zero, List.set_cons_succ]
        refine wpAnyH_take (i := 6) (oi := { dst := some 20, op := Op.load 9 (Operand.tmp 19), type := 9, pos := "report.go:327", after := #[{ on := 5, ground := Ground.data }], guard := none }) (v := ?v6) rfl (by kernel_rfl) (by kernel_rfl) (by kernel_rfl) (fun _ _ _ h => h) (Or.inl ⟨by rfl, ?y6⟩) (by assumption) ?_
        case y6 => (intro w hSw; (try dsimp only at hSw); go_simp; try with_reducible rfl)
        simp only [Act.put, List.setIfInBounds_toArray, List.set_cons_zero, List.set_cons_succ]
        refine wpAnyH_take (i := 8) (oi := { dst := some 22, op := Op.move (Operand.tmp 1), type := 9, pos := "report.go:327", after := #[], guard := none }) (v := ?v8) rfl (by kernel_rfl) (by kernel_rfl) (by kernel_rfl) (fun _ _ _ h => h) (Or.inl ⟨by rfl, ?y8⟩) (by assumption) ?_
        case y8 => (intro w hSw; (try dsimp only at hSw); go_simp; try with_reducible rfl)
        simp only [Act.put, List.setIfInBounds_toArray, List.set_cons_zero, List.set_cons_succ]
        refine wpAnyH_ready (rs := [7]) (by kernel_rfl) (by simp) ?_
        refine AllReadyH.cons (o := { dst := some 21, op := Op.call { callee := Callee.value (Operand.func 21), args := #[Operand.tmp 14, Operand.tmp 20], argTypes := #[26, 9] }, type := 22, pos := "report.go:327", after := #[{ on := 0, ground := Ground.data }, { on := 6, ground := Ground.data }], guard := none }) rfl (fun K hK => ?_) AllReadyH.nil
        go_simp
        (go_at_call 21; go_split_ands; (with_reducible refine ((HPR.out _ (by assumption) _).mono ?_)); rintro ee w9 ⟨A9, c9, xs9, rfl, hle9, hle9', hstr9, hz9, hB9⟩; have HLE9 := Lib.hid hle9; have HSTR9 := Lib.hid hstr9; have HZ9 := Lib.hid hz9; clear hle9 hstr9 hz9)
        refine hK.out _ _ ⟨hB9, (HKR.out _ hB9).2.1, (HKR.out _ hB9).2.2.1, (HKR.out _ hB9).2.2.2.1, (HKR.out _ hB9).2.2.2.2.1, (HKR.out _ hB9).2.2.2.2.2.1, (HKR.out _ hB9).2.2.2.2.2.2, HKX.out _ hB9⟩ (fun hHeld => ?_)
        clear hK K
        try simp only [Act.put, List.setIfInBounds_toArray, List.set_cons_zero, List.set_cons_succ]
        refine wpAnyH_ready (rs := [9]) (by kernel_rfl) (by simp) ?_
        refine AllReadyH.cons (o := { dst := some 23, op := Op.call { callee := Callee.value (Operand.func 19), args := #[Operand.tmp 21, Operand.tmp 22], argTypes := #[22, 9] }, type := 4, pos := "report.go:327", after := #[{ on := 7, ground := Ground.data }, { on := 8, ground := Ground.data }, { on := 7, ground := Ground.chain }], guard := none }) rfl (fun K hK => ?_) AllReadyH.nil
        go_simp
        (go_at_call 19; (with_reducible refine ((has19 HSTR9.out HLE9.out hle9' site).mono ?_)); rw [points_contains HZ9.out site, HH.out]; rintro ee w10 ⟨rfl, hB10'⟩; have hB10 := hB9.trans (hB10'.mono hB9.size); clear hB10' hB9)
        refine hK.out _ _ ⟨hB10, (HKR.out _ hB10).2.1, (HKR.out _ hB10).2.2.1, (HKR.out _ hB10).2.2.2.1, (HKR.out _ hB10).2.2.2.2.1, (HKR.out _ hB10).2.2.2.2.2.1, (HKR.out _ hB10).2.2.2.2.2.2, HKX.out _ hB10⟩ (fun hHeld => ?_)
        clear hK K
        try simp only [Act.put, List.setIfInBounds_toArray, List.set_cons_zero, List.set_cons_succ]
        refine wpAnyH_take (i := 10) (oi := { dst := some 24, op := Op.move (Operand.tmp 23), type := 4, pos := "report.go:327", after := #[{ on := 9, ground := Ground.data }, { on := 9, ground := Ground.chain }], guard := none }) (v := ?v10) rfl (by kernel_rfl) (by kernel_rfl) (by kernel_rfl) (fun _ _ _ h => h) (Or.inl ⟨by rfl, ?y10⟩) (by assumption) ?_
        case y10 => (intro w hSw; (try dsimp only at hSw); go_simp; try with_reducible rfl)
        simp only [Act.put, List.setIfInBounds_toArray, List.set_cons_zero, List.set_cons_succ]
        refine wpAnyH_take (i := 11) (oi := { dst := some 25, op := Op.move (Operand.tmp 5), type := 22, pos := "report.go:327", after := #[{ on := 10, ground := Ground.guard }], guard := some (10, true) }) (v := undef) rfl (by kernel_rfl) (by kernel_rfl) (by kernel_rfl) (fun _ _ _ h => h) (Or.inr ⟨by rfl, rfl⟩) (by assumption) ?_
        simp only [Act.put, List.setIfInBounds_toArray, List.set_cons_zero, List.set_cons_succ]
        refine wpAnyH_take (i := 12) (oi := { dst := some 26, op := Op.fieldAddr 26 (Operand.tmp 2) 2, type := 0, pos := "report.go:327", after := #[{ on := 10, ground := Ground.guard }], guard := some (10, true) }) (v := undef) rfl (by kernel_rfl) (by kernel_rfl) (by kernel_rfl) (fun _ _ _ h => h) (Or.inr ⟨by rfl, rfl⟩) (by assumption) ?_
        simp only [Act.put, List.setIfInBounds_toArray, List.set_cons_zero, List.set_cons_succ]
        refine wpAnyH_take (i := 13) (oi := { dst := some 27, op := Op.load 23 (Operand.tmp 26), type := 23, pos := "report.go:327", after := #[{ on := 12, ground := Ground.data }, { on := 10, ground := Ground.guard }], guard := some (10, true) }) (v := undef) rfl (by kernel_rfl) (by kernel_rfl) (by kernel_rfl) (fun _ _ _ h => h) (Or.inr ⟨by rfl, rfl⟩) (by assumption) ?_
        simp only [Act.put, List.setIfInBounds_toArray, List.set_cons_zero, List.set_cons_succ]
        refine wpAnyH_take (i := 14) (oi := { dst := some 28, op := Op.move (Operand.tmp 6), type := 3, pos := "report.go:327", after := #[{ on := 10, ground := Ground.guard }], guard := some (10, true) }) (v := undef) rfl (by kernel_rfl) (by kernel_rfl) (by kernel_rfl) (fun _ _ _ h => h) (Or.inr ⟨by rfl, rfl⟩) (by assumption) ?_
        simp only [Act.put, List.setIfInBounds_toArray, List.set_cons_zero, List.set_cons_succ]
        refine wpAnyH_take (i := 15) (oi := { dst := some 29, op := Op.indexAddr 23 (Operand.tmp 27) (Operand.tmp 28), type := 0, pos := "report.go:327", after := #[{ on := 13, ground := Ground.data }, { on := 14, ground := Ground.data }, { on := 10, ground := Ground.guard }], guard := some (10, true) }) (v := undef) rfl (by kernel_rfl) (by kernel_rfl) (by kernel_rfl) (fun _ _ _ h => h) (Or.inr ⟨by rfl, rfl⟩) (by assumption) ?_
        simp only [Act.put, List.setIfInBounds_toArray, List.set_cons_zero, List.set_cons_succ]
        refine wpAnyH_take (i := 16) (oi := { dst := some 30, op := Op.fieldAddr 74 (Operand.tmp 29) 0, type := 0, pos := "report.go:327", after := #[{ on := 15, ground := Ground.data }, { on := 10, ground := Ground.guard }], guard := some (10, true) }) (v := undef) rfl (by kernel_rfl) (by kernel_rfl) (by kernel_rfl) (fun _ _ _ h => h) (Or.inr ⟨by rfl, rfl⟩) (by assumption) ?_
        simp only [Act.put, List.setIfInBounds_toArray, List.set_cons_zero, List.set_cons_succ]
        refine wpAnyH_take (i := 17) (oi := { dst := some 31, op := Op.load 9 (Operand.tmp 30), type := 9, pos := "report.go:327", after := #[{ on := 16, ground := Ground.data }, { on := 10, ground := Ground.guard }], guard := some (10, true) }) (v := undef) rfl (by kernel_rfl) (by kernel_rfl) (by kernel_rfl) (fun _ _ _ h => h) (Or.inr ⟨by rfl, rfl⟩) (by assumption) ?_
        simp only [Act.put, List.setIfInBounds_toArray, List.set_cons_zero, List.set_cons_succ]
        refine wpAnyH_take (i := 18) (oi := { dst := some 32, op := Op.call { callee := Callee.value (Operand.func 19), args := #[Operand.tmp 25, Operand.tmp 31], argTypes := #[22, 9] }, type := 4, pos := "report.go:327", after := #[{ on := 11, ground := Ground.data }, { on := 17, ground := Ground.data }, { on := 10, ground := Ground.chain }, { on := 10, ground := Ground.guard }], guard := some (10, true) }) (v := undef) rfl (by kernel_rfl) (by kernel_rfl) (by kernel_rfl) (fun _ _ _ h => h) (Or.inr ⟨by rfl, rfl⟩) (by assumption) ?_
        simp only [Act.put, List.setIfInBounds_toArray, List.set_cons_zero, List.set_cons_succ]
        refine wpAnyH_take (i := 19) (oi := { dst := some 33, op := Op.unOp UnOp.not 4 (Operand.tmp 32), type := 4, pos := "report.go:327", after := #[{ on := 18, ground := Ground.data }, { on := 10, ground := Ground.guard }], guard := some (10, true) }) (v := undef) rfl (by kernel_rfl) (by kernel_rfl) (by kernel_rfl) (fun _ _ _ h => h) (Or.inr ⟨by rfl, rfl⟩) (by assumption) ?_
        simp only [Act.put, List.setIfInBounds_toArray, List.set_cons_zero, List.set_cons_succ]
        refine wpAnyH_take (i := 20) (oi := { dst := some 34, op := Op.pick (Operand.tmp 24) (Operand.tmp 33) (Operand.const (Value.bool false)), type := 4, pos := "report.go:327", after := #[{ on := 10, ground := Ground.data }, { on := 19, ground := Ground.data }], guard := none }) (v := ?v20) rfl (by kernel_rfl) (by kernel_rfl) (by kernel_rfl) (fun _ _ _ h => h) (Or.inl ⟨by rfl, ?y20⟩) (by assumption) ?_
        case y20 => (intro w hSw; (try dsimp only at hSw); go_simp; try with_reducible rfl)
        simp only [Act.put, List.setIfInBounds_toArray, List.set_cons_zero, List.set_cons_succ]
        refine wpAnyH_done (by kernel_rfl) ?_ _
        all_goals
          go_wp2
          go_roundw
          case measure => simp [intOf]; omega
          case rel =>
            have hps := HPS.out
            rw [HH.out] at hps
            simp only [Bool.false_and, Bool.false_eq_true, if_false] at hps
            refine ⟨k + 1, A4, c4, hlt, by go_num, by rw [hps], by rw [hps]; exact HLE4.out, ?_, HB.out.trans (hB10.mono HB.out.size)⟩
            rw [hps]
            exact own_below HOWN.out hB10 (Nat.le_refl _)
    · have hke : k = rows.length := by omega
      subst hke
      go_wp2_with fail
      go_ret
      have hs1 := HB1.out.size
      have he : rows.take rows.length = rows := List.take_length
      have ho := row_q (q_of_own HOWN.out)
      have hl4 := HLE4.out
      rw [he] at ho hl4
      refine ⟨A4, c4, by rw [he]; rfl, hl4, ho, HB1.out.trans (HB.out.mono hs1)⟩
end Go.Proofs.Ytljfknneijmfoaa
