import Derived.Test.YtljfknneijmfoaaQs
namespace Go.Proofs.Ytljfknneijmfoaa
open Go.RowKit Go.Maps Go.WideMaps Go.Lib
open Go.Proofs.YtljfknneijmfoaaW.PrintWords (q_of_own q_slice q_cells add_at)

theorem info50 : (Try.prog.info? 50).map (fun i => (i.zero, i.size, i.bytes)) = some (some (.agg #[.string ⟨#[]⟩, .int .i64 0, .string ⟨#[]⟩]), 3, 40) := by kernel_rfl

/-- An edge's three cells. -/
def edgeCells (es : List (S × Int × S)) : List Value := es.flatMap fun e => [.string (U e.1), .int .i64 e.2.1, .string (U e.2.2)]

theorem edgeCells_snoc (es : List (S × Int × S)) (e : S × Int × S) : edgeCells (es ++ [e]) = edgeCells es ++ [.string (U e.1), .int .i64 e.2.1, .string (U e.2.2)] := by simp [edgeCells]

theorem edgeCells_get (es : List (S × Int × S)) (k : Nat) (e : S × Int × S) (h : es[k]? = some e) : (edgeCells es)[k * 3]? = some (.string (U e.1)) ∧ (edgeCells es)[k * 3 + 1]? = some (.int .i64 e.2.1) ∧ (edgeCells es)[k * 3 + 2]? = some (.string (U e.2.2)) := by
  induction es generalizing k with
  | nil => simp at h
  | cons x es ih =>
    cases k with
    | zero => simp at h; subst h; simp [edgeCells]
    | succ k =>
      have := ih k (by simpa using h)
      rw [show (k + 1) * 3 = k * 3 + 1 + 1 + 1 by omega, show k * 3 + 1 + 1 + 1 + 1 = k * 3 + 1 + 1 + 1 + 1 from rfl, show k * 3 + 1 + 1 + 1 + 2 = k * 3 + 2 + 1 + 1 + 1 by omega]
      simpa [edgeCells] using this

theorem edgeRow_own {w : World} {base : Nat} {A : Option Addr} {c : Nat} {es : List (S × Int × S)} (h : w.ownsRow base 50 3 (.slice A es.length c) es.length (edgeCells es)) : EdgeRow w A es := by
  intro k e he
  have hk : k < es.length := (List.getElem?_eq_some_iff.1 he).1
  obtain ⟨ad, rfl, hc⟩ := q_cells (q_of_own h) (by omega)
  obtain ⟨h0, h1, h2⟩ := edgeCells_get es k e he
  refine ⟨ad, rfl, hc _ _ h0, ?_, ?_⟩
  · have := hc _ _ h1
    rwa [← Go.Deep.add_add] at this
  · have := hc _ _ h2
    rwa [← Go.Deep.add_add] at this

/-- An edge by value. -/
def edgeV (e : S × Int × S) : Value := .agg #[.string (U e.1), .int .i64 e.2.1, .string (U e.2.2)]

set_option maxRecDepth 100000 in
theorem edges65_66 (f : S × Int × S → Bool) (c1 : Value) (e : S) (As : Option Addr) (ns cs : Nat) (Ar : Option Addr) (nr cr : Nat) (Ae : Option Addr) (ce : Nat) (x4 x5 : Value) (es : List (S × Int × S)) (w : World) (hE : EdgeRow w Ae es) (hn : es.length ≤ 100000)
    (hF : ∀ y ∈ es, ∀ W, Below w.heap.size w W → Calls Try.prog 66 #[.agg #[.string (U y.1), .int .i64 y.2.1, .string (U y.2.2)], c1] W fun ee w' => ee = .returned (.bool (f y)) ∧ Below W.heap.size W w') :
    Calls Try.prog 65 #[.agg (repV e As ns cs Ar nr cr (.slice Ae es.length ce) x4 x5), .func (.func 66) #[] #[c1]] w fun ee w' => ∃ A c, ee = .returned (.slice A (es.filter f).length c) ∧ (es.filter f).length ≤ c ∧ EdgeRow w' A (es.filter f) ∧ Below w.heap.size w w' := by
  obtain ⟨i50, hi50, hz0, hz1, hz2⟩ := info_parts info50
  have HE := Lib.hid hE
  have HF := Lib.hid hF
  clear hE hF
  unfold repV
  go_enter Try.func65, Try.ntmps65
  go_upto_region 1 with (fail)
  obtain ⟨w1, hw1⟩ : ∃ w1, w1 = w.alloc (.cells #[.string (U e), .slice As ns cs, .slice Ar nr cr, .slice Ae es.length ce, x4, x5] 32) := ⟨_, rfl⟩
  rw [← hw1]
  have hb1 : Below w.heap.size w w1 := by rw [hw1]; exact (Below.refl _ w).alloc (Nat.le_refl _) _
  have hz1' : w1.heap.size = w.heap.size + 1 := by rw [hw1]; exact World.size_alloc _ _
  have hc1 : w1.heap[w.heap.size]? = some (.cells #[.string (U e), .slice As ns cs, .slice Ar nr cr, .slice Ae es.length ce, x4, x5] 32) := by rw [hw1]; exact block_new _ _
  have k3 := cell_of_block (j := 3) hc1 rfl
  have HB1 := Lib.hid hb1
  have HZ1 := Lib.hid hz1'
  have HE1 := Lib.hid (HE.out.below hb1 (Nat.le_refl _))
  clear hb1 hz1' hc1 hw1
  go_wp2
  clear k3
  go_loopw [4, 10] (fun s4 i wr => ∃ (k : Nat) (A4 : Option Addr) (c4 : Nat), k ≤ es.length ∧ i = .int .i64 k ∧ s4 = .slice A4 ((es.take k).filter f).length c4 ∧ ((es.take k).filter f).length ≤ c4 ∧
    wr.ownsRow w1.heap.size 50 3 (.slice A4 ((es.take k).filter f).length c4) ((es.take k).filter f).length (edgeCells ((es.take k).filter f)) ∧ Below w1.heap.size w1 wr) (fun _ i _ => es.length - (intOf i).toNat)
  case atStart =>
    refine ⟨0, none, 0, Nat.zero_le _, rfl, by simp, by simp, ?_, Below.refl _ _⟩
    simpa [edgeCells] using World.ownsRow_nil w1 w1.heap.size 50 3
  case round =>
    obtain ⟨k, A4, c4, hk, rfl, rfl, hle4, hown, hB⟩ := hrel
    have HOWN := Lib.hid hown
    have HB := Lib.hid hB
    have HLE4 := Lib.hid hle4
    clear hown hB hle4
    by_cases hlt : k < es.length
    · obtain ⟨⟨ef, ep, et⟩, hr⟩ : ∃ y, es[k]? = some y := ⟨_, List.getElem?_eq_getElem hlt⟩
      obtain ⟨ad, rfl, h0, h1, h2⟩ := (HE1.out.below HB.out (Nat.le_refl _)) k _ hr
      dsimp only at h0 h1 h2
      have hkb : k ≤ 1000000 := by omega
      have hts : (es.take (k + 1)).filter f = (es.take k).filter f ++ (if f (ef, ep, et) = true then [(ef, ep, et)] else []) := by
        rw [List.take_add_one, hr, Option.toList_some, List.filter_append]
        congr 1
        rw [List.filter_cons, List.filter_nil]
      have HTS := Lib.hid hts
      have HYM := Lib.hid (List.mem_of_getElem? hr)
      obtain ⟨ac, hac⟩ : ∃ ac, ac = (es.take k).filter f := ⟨_, rfl⟩
      have hal : ac.length ≤ 100000 := by rw [hac]; exact Nat.le_trans (List.length_filter_le _ _) (by rw [List.length_take]; omega)
      rw [← hac] at HTS HOWN HLE4
      simp only [← hac]
      clear hac hts hr
      go_upto_region 4 with (fail)
      obtain ⟨wo, hwo⟩ : ∃ wo : World, wo = wr.alloc (.cells #[.string (U ef), .int .i64 ep, .string (U et)] 50) := ⟨_, rfl⟩
      rw [← hwo]
      have hBo : Below w1.heap.size w1 wo := by rw [hwo]; exact HB.out.alloc (HB.out.size) _
      have hOo := HOWN.out.alloc (.cells #[.string (U ef), .int .i64 ep, .string (U et)] 50)
      have hbs := block_new wr (.cells #[.string (U ef), .int .i64 ep, .string (U et)] 50)
      have hws : wo.heap.size = wr.heap.size + 1 := by rw [hwo]; exact World.size_alloc _ _
      rw [← hwo] at hOo hbs
      have p0 := cell_of_block (j := 0) hbs rfl
      have p1 := cell_of_block (j := 1) hbs rfl
      have p2 := cell_of_block (j := 2) hbs rfl
      have HBO := Lib.hid hBo
      have HOO := Lib.hid hOo
      have HBS := Lib.hid hbs
      have HFY := Lib.hid (HF.out _ HYM.out wo (HB1.out.trans (hBo.mono HB1.out.size)))
      clear hBo hOo hbs hwo h0 h1 h2
      obtain ⟨t, ht⟩ : ∃ t, f (ef, ep, et) = t := ⟨_, rfl⟩
      rw [ht] at HFY
      rw [ht] at HTS
      clear ht
      cases t
      · go_wp2_with (refine HFY.out.mono ?_; rintro ee w2 ⟨rfl, hB2⟩; have HO2 := Lib.hid (own_below HOO.out hB2 (Nat.le_refl _)); have HBT := Lib.hid (HBO.out.trans (hB2.mono HBO.out.size)); clear hB2)
        go_roundw
        case measure => simp [intOf]; omega
        case rel =>
          have hts := HTS.out
          simp only [Bool.false_eq_true, if_false, List.append_nil] at hts
          refine ⟨k + 1, A4, c4, hlt, by go_num, by rw [hts], by rw [hts]; exact HLE4.out, ?_, HBT.out⟩
          rw [hts]
          exact HO2.out
      · go_wp2_with (first
          | (refine HFY.out.mono ?_; rintro ee w2 ⟨rfl, hB2⟩; have hq := (hB2.block wr.heap.size (by omega)).trans HBS.out; clear p0 p1 p2; have p0 := cell_of_block (j := 0) hq rfl; have p1 := cell_of_block (j := 1) hq rfl; have p2 := cell_of_block (j := 2) hq rfl; have HO2 := Lib.hid (own_below HOO.out hB2 (Nat.le_refl _)); have HBT := Lib.hid (HBO.out.trans (hB2.mono HBO.out.size)); clear hB2 hq)
          | (at_builtin; refine wpList_append_lies _ (by rfl) _ _ _ (by rfl) w1.heap.size 50 i50 _ 3 40 Try.underlying24 hi50 hz0 hz1 hz2 rfl (by omega) (.slice A4 ac.length c4) _ _ (by rfl) (HO2.out.alloc _) ⟨w2.heap.size, 0, none⟩ 1 1 [.string (U ef), .int .i64 ep, .string (U et)] (by rfl) (by rfl) (World.news_of_block (cs := #[.string (U ef), .int .i64 ep, .string (U et)]) (t := 50) (fr := (0, 0)) (heap_alloc_new w2 _)) (by simp [Value.oneCell']) (by omega) (by unfold maxLen; omega) (by omega) (by have := HBT.out.size; simp; omega) (w2.heap.size + 1) (by simp) ?_; intro gg cap' w5 hown5 hgrow hat hlt5; have HO5 := Lib.hid hown5; have HG5 := Lib.hid hgrow; clear hown5 hgrow hat hlt5))
        go_roundw
        case measure => simp [intOf]; omega
        case rel =>
          have hts := HTS.out
          simp only [if_true] at hts
          have h5 := HO5.out
          obtain ⟨_, _, he5, hle5⟩ := q_slice (q_of_own h5)
          injection he5 with _ _ he5
          subst he5
          refine ⟨k + 1, some ⟨gg, 0, none⟩, cap', hlt, by go_num, by rw [hts]; simp, by rw [hts]; simpa using hle5, ?_, ?_⟩
          · rw [hts, edgeCells_snoc]
            simpa using h5
          · have hb := HBT.out.alloc HBT.out.size (.cells #[.string (U ef), .int .i64 ep, .string (U et)] 50)
            exact hb.grown HG5.out hb.size (fun q hq => (HO2.out.lt q hq).1)
    · have hke : k = es.length := by omega
      subst hke
      go_wp2_with fail
      go_ret
      have hs1 := HB1.out.size
      have he : es.take es.length = es := List.take_length
      have ho := edgeRow_own HOWN.out
      have hl4 := HLE4.out
      rw [he] at ho hl4
      exact ⟨A4, c4, by rw [he]; rfl, hl4, ho, HB1.out.trans (HB.out.mono hs1)⟩

set_option maxRecDepth 100000 in
theorem edges65_67 (f : S × Int × S → Bool) (c1 : Value) (e : S) (As : Option Addr) (ns cs : Nat) (Ar : Option Addr) (nr cr : Nat) (Ae : Option Addr) (ce : Nat) (x4 x5 : Value) (es : List (S × Int × S)) (w : World) (hE : EdgeRow w Ae es) (hn : es.length ≤ 100000)
    (hF : ∀ y ∈ es, ∀ W, Below w.heap.size w W → Calls Try.prog 67 #[.agg #[.string (U y.1), .int .i64 y.2.1, .string (U y.2.2)], c1] W fun ee w' => ee = .returned (.bool (f y)) ∧ Below W.heap.size W w') :
    Calls Try.prog 65 #[.agg (repV e As ns cs Ar nr cr (.slice Ae es.length ce) x4 x5), .func (.func 67) #[] #[c1]] w fun ee w' => ∃ A c, ee = .returned (.slice A (es.filter f).length c) ∧ (es.filter f).length ≤ c ∧ EdgeRow w' A (es.filter f) ∧ Below w.heap.size w w' := by
  obtain ⟨i50, hi50, hz0, hz1, hz2⟩ := info_parts info50
  have HE := Lib.hid hE
  have HF := Lib.hid hF
  clear hE hF
  unfold repV
  go_enter Try.func65, Try.ntmps65
  go_upto_region 1 with (fail)
  obtain ⟨w1, hw1⟩ : ∃ w1, w1 = w.alloc (.cells #[.string (U e), .slice As ns cs, .slice Ar nr cr, .slice Ae es.length ce, x4, x5] 32) := ⟨_, rfl⟩
  rw [← hw1]
  have hb1 : Below w.heap.size w w1 := by rw [hw1]; exact (Below.refl _ w).alloc (Nat.le_refl _) _
  have hz1' : w1.heap.size = w.heap.size + 1 := by rw [hw1]; exact World.size_alloc _ _
  have hc1 : w1.heap[w.heap.size]? = some (.cells #[.string (U e), .slice As ns cs, .slice Ar nr cr, .slice Ae es.length ce, x4, x5] 32) := by rw [hw1]; exact block_new _ _
  have k3 := cell_of_block (j := 3) hc1 rfl
  have HB1 := Lib.hid hb1
  have HZ1 := Lib.hid hz1'
  have HE1 := Lib.hid (HE.out.below hb1 (Nat.le_refl _))
  clear hb1 hz1' hc1 hw1
  go_wp2
  clear k3
  go_loopw [4, 10] (fun s4 i wr => ∃ (k : Nat) (A4 : Option Addr) (c4 : Nat), k ≤ es.length ∧ i = .int .i64 k ∧ s4 = .slice A4 ((es.take k).filter f).length c4 ∧ ((es.take k).filter f).length ≤ c4 ∧
    wr.ownsRow w1.heap.size 50 3 (.slice A4 ((es.take k).filter f).length c4) ((es.take k).filter f).length (edgeCells ((es.take k).filter f)) ∧ Below w1.heap.size w1 wr) (fun _ i _ => es.length - (intOf i).toNat)
  case atStart =>
    refine ⟨0, none, 0, Nat.zero_le _, rfl, by simp, by simp, ?_, Below.refl _ _⟩
    simpa [edgeCells] using World.ownsRow_nil w1 w1.heap.size 50 3
  case round =>
    obtain ⟨k, A4, c4, hk, rfl, rfl, hle4, hown, hB⟩ := hrel
    have HOWN := Lib.hid hown
    have HB := Lib.hid hB
    have HLE4 := Lib.hid hle4
    clear hown hB hle4
    by_cases hlt : k < es.length
    · obtain ⟨⟨ef, ep, et⟩, hr⟩ : ∃ y, es[k]? = some y := ⟨_, List.getElem?_eq_getElem hlt⟩
      obtain ⟨ad, rfl, h0, h1, h2⟩ := (HE1.out.below HB.out (Nat.le_refl _)) k _ hr
      dsimp only at h0 h1 h2
      have hkb : k ≤ 1000000 := by omega
      have hts : (es.take (k + 1)).filter f = (es.take k).filter f ++ (if f (ef, ep, et) = true then [(ef, ep, et)] else []) := by
        rw [List.take_add_one, hr, Option.toList_some, List.filter_append]
        congr 1
        rw [List.filter_cons, List.filter_nil]
      have HTS := Lib.hid hts
      have HYM := Lib.hid (List.mem_of_getElem? hr)
      obtain ⟨ac, hac⟩ : ∃ ac, ac = (es.take k).filter f := ⟨_, rfl⟩
      have hal : ac.length ≤ 100000 := by rw [hac]; exact Nat.le_trans (List.length_filter_le _ _) (by rw [List.length_take]; omega)
      rw [← hac] at HTS HOWN HLE4
      simp only [← hac]
      clear hac hts hr
      go_upto_region 4 with (fail)
      obtain ⟨wo, hwo⟩ : ∃ wo : World, wo = wr.alloc (.cells #[.string (U ef), .int .i64 ep, .string (U et)] 50) := ⟨_, rfl⟩
      rw [← hwo]
      have hBo : Below w1.heap.size w1 wo := by rw [hwo]; exact HB.out.alloc (HB.out.size) _
      have hOo := HOWN.out.alloc (.cells #[.string (U ef), .int .i64 ep, .string (U et)] 50)
      have hbs := block_new wr (.cells #[.string (U ef), .int .i64 ep, .string (U et)] 50)
      have hws : wo.heap.size = wr.heap.size + 1 := by rw [hwo]; exact World.size_alloc _ _
      rw [← hwo] at hOo hbs
      have p0 := cell_of_block (j := 0) hbs rfl
      have p1 := cell_of_block (j := 1) hbs rfl
      have p2 := cell_of_block (j := 2) hbs rfl
      have HBO := Lib.hid hBo
      have HOO := Lib.hid hOo
      have HBS := Lib.hid hbs
      have HFY := Lib.hid (HF.out _ HYM.out wo (HB1.out.trans (hBo.mono HB1.out.size)))
      clear hBo hOo hbs hwo h0 h1 h2
      obtain ⟨t, ht⟩ : ∃ t, f (ef, ep, et) = t := ⟨_, rfl⟩
      rw [ht] at HFY
      rw [ht] at HTS
      clear ht
      cases t
      · go_wp2_with (refine HFY.out.mono ?_; rintro ee w2 ⟨rfl, hB2⟩; have HO2 := Lib.hid (own_below HOO.out hB2 (Nat.le_refl _)); have HBT := Lib.hid (HBO.out.trans (hB2.mono HBO.out.size)); clear hB2)
        go_roundw
        case measure => simp [intOf]; omega
        case rel =>
          have hts := HTS.out
          simp only [Bool.false_eq_true, if_false, List.append_nil] at hts
          refine ⟨k + 1, A4, c4, hlt, by go_num, by rw [hts], by rw [hts]; exact HLE4.out, ?_, HBT.out⟩
          rw [hts]
          exact HO2.out
      · go_wp2_with (first
          | (refine HFY.out.mono ?_; rintro ee w2 ⟨rfl, hB2⟩; have hq := (hB2.block wr.heap.size (by omega)).trans HBS.out; clear p0 p1 p2; have p0 := cell_of_block (j := 0) hq rfl; have p1 := cell_of_block (j := 1) hq rfl; have p2 := cell_of_block (j := 2) hq rfl; have HO2 := Lib.hid (own_below HOO.out hB2 (Nat.le_refl _)); have HBT := Lib.hid (HBO.out.trans (hB2.mono HBO.out.size)); clear hB2 hq)
          | (at_builtin; refine wpList_append_lies _ (by rfl) _ _ _ (by rfl) w1.heap.size 50 i50 _ 3 40 Try.underlying24 hi50 hz0 hz1 hz2 rfl (by omega) (.slice A4 ac.length c4) _ _ (by rfl) (HO2.out.alloc _) ⟨w2.heap.size, 0, none⟩ 1 1 [.string (U ef), .int .i64 ep, .string (U et)] (by rfl) (by rfl) (World.news_of_block (cs := #[.string (U ef), .int .i64 ep, .string (U et)]) (t := 50) (fr := (0, 0)) (heap_alloc_new w2 _)) (by simp [Value.oneCell']) (by omega) (by unfold maxLen; omega) (by omega) (by have := HBT.out.size; simp; omega) (w2.heap.size + 1) (by simp) ?_; intro gg cap' w5 hown5 hgrow hat hlt5; have HO5 := Lib.hid hown5; have HG5 := Lib.hid hgrow; clear hown5 hgrow hat hlt5))
        go_roundw
        case measure => simp [intOf]; omega
        case rel =>
          have hts := HTS.out
          simp only [if_true] at hts
          have h5 := HO5.out
          obtain ⟨_, _, he5, hle5⟩ := q_slice (q_of_own h5)
          injection he5 with _ _ he5
          subst he5
          refine ⟨k + 1, some ⟨gg, 0, none⟩, cap', hlt, by go_num, by rw [hts]; simp, by rw [hts]; simpa using hle5, ?_, ?_⟩
          · rw [hts, edgeCells_snoc]
            simpa using h5
          · have hb := HBT.out.alloc HBT.out.size (.cells #[.string (U ef), .int .i64 ep, .string (U et)] 50)
            exact hb.grown HG5.out hb.size (fun q hq => (HO2.out.lt q hq).1)
    · have hke : k = es.length := by omega
      subst hke
      go_wp2_with fail
      go_ret
      have hs1 := HB1.out.size
      have he : es.take es.length = es := List.take_length
      have ho := edgeRow_own HOWN.out
      have hl4 := HLE4.out
      rw [he] at ho hl4
      exact ⟨A4, c4, by rw [he]; rfl, hl4, ho, HB1.out.trans (HB.out.mono hs1)⟩

set_option maxRecDepth 100000 in
theorem edges65_68 (f : S × Int × S → Bool) (c1 : Value) (c2 : Value) (e : S) (As : Option Addr) (ns cs : Nat) (Ar : Option Addr) (nr cr : Nat) (Ae : Option Addr) (ce : Nat) (x4 x5 : Value) (es : List (S × Int × S)) (w : World) (hE : EdgeRow w Ae es) (hn : es.length ≤ 100000)
    (hF : ∀ y ∈ es, ∀ W, Below w.heap.size w W → Calls Try.prog 68 #[.agg #[.string (U y.1), .int .i64 y.2.1, .string (U y.2.2)], c1, c2] W fun ee w' => ee = .returned (.bool (f y)) ∧ Below W.heap.size W w') :
    Calls Try.prog 65 #[.agg (repV e As ns cs Ar nr cr (.slice Ae es.length ce) x4 x5), .func (.func 68) #[] #[c1, c2]] w fun ee w' => ∃ A c, ee = .returned (.slice A (es.filter f).length c) ∧ (es.filter f).length ≤ c ∧ EdgeRow w' A (es.filter f) ∧ Below w.heap.size w w' := by
  obtain ⟨i50, hi50, hz0, hz1, hz2⟩ := info_parts info50
  have HE := Lib.hid hE
  have HF := Lib.hid hF
  clear hE hF
  unfold repV
  go_enter Try.func65, Try.ntmps65
  go_upto_region 1 with (fail)
  obtain ⟨w1, hw1⟩ : ∃ w1, w1 = w.alloc (.cells #[.string (U e), .slice As ns cs, .slice Ar nr cr, .slice Ae es.length ce, x4, x5] 32) := ⟨_, rfl⟩
  rw [← hw1]
  have hb1 : Below w.heap.size w w1 := by rw [hw1]; exact (Below.refl _ w).alloc (Nat.le_refl _) _
  have hz1' : w1.heap.size = w.heap.size + 1 := by rw [hw1]; exact World.size_alloc _ _
  have hc1 : w1.heap[w.heap.size]? = some (.cells #[.string (U e), .slice As ns cs, .slice Ar nr cr, .slice Ae es.length ce, x4, x5] 32) := by rw [hw1]; exact block_new _ _
  have k3 := cell_of_block (j := 3) hc1 rfl
  have HB1 := Lib.hid hb1
  have HZ1 := Lib.hid hz1'
  have HE1 := Lib.hid (HE.out.below hb1 (Nat.le_refl _))
  clear hb1 hz1' hc1 hw1
  go_wp2
  clear k3
  go_loopw [4, 10] (fun s4 i wr => ∃ (k : Nat) (A4 : Option Addr) (c4 : Nat), k ≤ es.length ∧ i = .int .i64 k ∧ s4 = .slice A4 ((es.take k).filter f).length c4 ∧ ((es.take k).filter f).length ≤ c4 ∧
    wr.ownsRow w1.heap.size 50 3 (.slice A4 ((es.take k).filter f).length c4) ((es.take k).filter f).length (edgeCells ((es.take k).filter f)) ∧ Below w1.heap.size w1 wr) (fun _ i _ => es.length - (intOf i).toNat)
  case atStart =>
    refine ⟨0, none, 0, Nat.zero_le _, rfl, by simp, by simp, ?_, Below.refl _ _⟩
    simpa [edgeCells] using World.ownsRow_nil w1 w1.heap.size 50 3
  case round =>
    obtain ⟨k, A4, c4, hk, rfl, rfl, hle4, hown, hB⟩ := hrel
    have HOWN := Lib.hid hown
    have HB := Lib.hid hB
    have HLE4 := Lib.hid hle4
    clear hown hB hle4
    by_cases hlt : k < es.length
    · obtain ⟨⟨ef, ep, et⟩, hr⟩ : ∃ y, es[k]? = some y := ⟨_, List.getElem?_eq_getElem hlt⟩
      obtain ⟨ad, rfl, h0, h1, h2⟩ := (HE1.out.below HB.out (Nat.le_refl _)) k _ hr
      dsimp only at h0 h1 h2
      have hkb : k ≤ 1000000 := by omega
      have hts : (es.take (k + 1)).filter f = (es.take k).filter f ++ (if f (ef, ep, et) = true then [(ef, ep, et)] else []) := by
        rw [List.take_add_one, hr, Option.toList_some, List.filter_append]
        congr 1
        rw [List.filter_cons, List.filter_nil]
      have HTS := Lib.hid hts
      have HYM := Lib.hid (List.mem_of_getElem? hr)
      obtain ⟨ac, hac⟩ : ∃ ac, ac = (es.take k).filter f := ⟨_, rfl⟩
      have hal : ac.length ≤ 100000 := by rw [hac]; exact Nat.le_trans (List.length_filter_le _ _) (by rw [List.length_take]; omega)
      rw [← hac] at HTS HOWN HLE4
      simp only [← hac]
      clear hac hts hr
      go_upto_region 4 with (fail)
      obtain ⟨wo, hwo⟩ : ∃ wo : World, wo = wr.alloc (.cells #[.string (U ef), .int .i64 ep, .string (U et)] 50) := ⟨_, rfl⟩
      rw [← hwo]
      have hBo : Below w1.heap.size w1 wo := by rw [hwo]; exact HB.out.alloc (HB.out.size) _
      have hOo := HOWN.out.alloc (.cells #[.string (U ef), .int .i64 ep, .string (U et)] 50)
      have hbs := block_new wr (.cells #[.string (U ef), .int .i64 ep, .string (U et)] 50)
      have hws : wo.heap.size = wr.heap.size + 1 := by rw [hwo]; exact World.size_alloc _ _
      rw [← hwo] at hOo hbs
      have p0 := cell_of_block (j := 0) hbs rfl
      have p1 := cell_of_block (j := 1) hbs rfl
      have p2 := cell_of_block (j := 2) hbs rfl
      have HBO := Lib.hid hBo
      have HOO := Lib.hid hOo
      have HBS := Lib.hid hbs
      have HFY := Lib.hid (HF.out _ HYM.out wo (HB1.out.trans (hBo.mono HB1.out.size)))
      clear hBo hOo hbs hwo h0 h1 h2
      obtain ⟨t, ht⟩ : ∃ t, f (ef, ep, et) = t := ⟨_, rfl⟩
      rw [ht] at HFY
      rw [ht] at HTS
      clear ht
      cases t
      · go_wp2_with (refine HFY.out.mono ?_; rintro ee w2 ⟨rfl, hB2⟩; have HO2 := Lib.hid (own_below HOO.out hB2 (Nat.le_refl _)); have HBT := Lib.hid (HBO.out.trans (hB2.mono HBO.out.size)); clear hB2)
        go_roundw
        case measure => simp [intOf]; omega
        case rel =>
          have hts := HTS.out
          simp only [Bool.false_eq_true, if_false, List.append_nil] at hts
          refine ⟨k + 1, A4, c4, hlt, by go_num, by rw [hts], by rw [hts]; exact HLE4.out, ?_, HBT.out⟩
          rw [hts]
          exact HO2.out
      · go_wp2_with (first
          | (refine HFY.out.mono ?_; rintro ee w2 ⟨rfl, hB2⟩; have hq := (hB2.block wr.heap.size (by omega)).trans HBS.out; clear p0 p1 p2; have p0 := cell_of_block (j := 0) hq rfl; have p1 := cell_of_block (j := 1) hq rfl; have p2 := cell_of_block (j := 2) hq rfl; have HO2 := Lib.hid (own_below HOO.out hB2 (Nat.le_refl _)); have HBT := Lib.hid (HBO.out.trans (hB2.mono HBO.out.size)); clear hB2 hq)
          | (at_builtin; refine wpList_append_lies _ (by rfl) _ _ _ (by rfl) w1.heap.size 50 i50 _ 3 40 Try.underlying24 hi50 hz0 hz1 hz2 rfl (by omega) (.slice A4 ac.length c4) _ _ (by rfl) (HO2.out.alloc _) ⟨w2.heap.size, 0, none⟩ 1 1 [.string (U ef), .int .i64 ep, .string (U et)] (by rfl) (by rfl) (World.news_of_block (cs := #[.string (U ef), .int .i64 ep, .string (U et)]) (t := 50) (fr := (0, 0)) (heap_alloc_new w2 _)) (by simp [Value.oneCell']) (by omega) (by unfold maxLen; omega) (by omega) (by have := HBT.out.size; simp; omega) (w2.heap.size + 1) (by simp) ?_; intro gg cap' w5 hown5 hgrow hat hlt5; have HO5 := Lib.hid hown5; have HG5 := Lib.hid hgrow; clear hown5 hgrow hat hlt5))
        go_roundw
        case measure => simp [intOf]; omega
        case rel =>
          have hts := HTS.out
          simp only [if_true] at hts
          have h5 := HO5.out
          obtain ⟨_, _, he5, hle5⟩ := q_slice (q_of_own h5)
          injection he5 with _ _ he5
          subst he5
          refine ⟨k + 1, some ⟨gg, 0, none⟩, cap', hlt, by go_num, by rw [hts]; simp, by rw [hts]; simpa using hle5, ?_, ?_⟩
          · rw [hts, edgeCells_snoc]
            simpa using h5
          · have hb := HBT.out.alloc HBT.out.size (.cells #[.string (U ef), .int .i64 ep, .string (U et)] 50)
            exact hb.grown HG5.out hb.size (fun q hq => (HO2.out.lt q hq).1)
    · have hke : k = es.length := by omega
      subst hke
      go_wp2_with fail
      go_ret
      have hs1 := HB1.out.size
      have he : es.take es.length = es := List.take_length
      have ho := edgeRow_own HOWN.out
      have hl4 := HLE4.out
      rw [he] at ho hl4
      exact ⟨A4, c4, by rw [he]; rfl, hl4, ho, HB1.out.trans (HB.out.mono hs1)⟩

set_option maxRecDepth 100000 in
theorem edges65_69 (f : S × Int × S → Bool) (c1 : Value) (e : S) (As : Option Addr) (ns cs : Nat) (Ar : Option Addr) (nr cr : Nat) (Ae : Option Addr) (ce : Nat) (x4 x5 : Value) (es : List (S × Int × S)) (w : World) (hE : EdgeRow w Ae es) (hn : es.length ≤ 100000)
    (hF : ∀ y ∈ es, ∀ W, Below w.heap.size w W → Calls Try.prog 69 #[.agg #[.string (U y.1), .int .i64 y.2.1, .string (U y.2.2)], c1] W fun ee w' => ee = .returned (.bool (f y)) ∧ Below W.heap.size W w') :
    Calls Try.prog 65 #[.agg (repV e As ns cs Ar nr cr (.slice Ae es.length ce) x4 x5), .func (.func 69) #[] #[c1]] w fun ee w' => ∃ A c, ee = .returned (.slice A (es.filter f).length c) ∧ (es.filter f).length ≤ c ∧ EdgeRow w' A (es.filter f) ∧ Below w.heap.size w w' := by
  obtain ⟨i50, hi50, hz0, hz1, hz2⟩ := info_parts info50
  have HE := Lib.hid hE
  have HF := Lib.hid hF
  clear hE hF
  unfold repV
  go_enter Try.func65, Try.ntmps65
  go_upto_region 1 with (fail)
  obtain ⟨w1, hw1⟩ : ∃ w1, w1 = w.alloc (.cells #[.string (U e), .slice As ns cs, .slice Ar nr cr, .slice Ae es.length ce, x4, x5] 32) := ⟨_, rfl⟩
  rw [← hw1]
  have hb1 : Below w.heap.size w w1 := by rw [hw1]; exact (Below.refl _ w).alloc (Nat.le_refl _) _
  have hz1' : w1.heap.size = w.heap.size + 1 := by rw [hw1]; exact World.size_alloc _ _
  have hc1 : w1.heap[w.heap.size]? = some (.cells #[.string (U e), .slice As ns cs, .slice Ar nr cr, .slice Ae es.length ce, x4, x5] 32) := by rw [hw1]; exact block_new _ _
  have k3 := cell_of_block (j := 3) hc1 rfl
  have HB1 := Lib.hid hb1
  have HZ1 := Lib.hid hz1'
  have HE1 := Lib.hid (HE.out.below hb1 (Nat.le_refl _))
  clear hb1 hz1' hc1 hw1
  go_wp2
  clear k3
  go_loopw [4, 10] (fun s4 i wr => ∃ (k : Nat) (A4 : Option Addr) (c4 : Nat), k ≤ es.length ∧ i = .int .i64 k ∧ s4 = .slice A4 ((es.take k).filter f).length c4 ∧ ((es.take k).filter f).length ≤ c4 ∧
    wr.ownsRow w1.heap.size 50 3 (.slice A4 ((es.take k).filter f).length c4) ((es.take k).filter f).length (edgeCells ((es.take k).filter f)) ∧ Below w1.heap.size w1 wr) (fun _ i _ => es.length - (intOf i).toNat)
  case atStart =>
    refine ⟨0, none, 0, Nat.zero_le _, rfl, by simp, by simp, ?_, Below.refl _ _⟩
    simpa [edgeCells] using World.ownsRow_nil w1 w1.heap.size 50 3
  case round =>
    obtain ⟨k, A4, c4, hk, rfl, rfl, hle4, hown, hB⟩ := hrel
    have HOWN := Lib.hid hown
    have HB := Lib.hid hB
    have HLE4 := Lib.hid hle4
    clear hown hB hle4
    by_cases hlt : k < es.length
    · obtain ⟨⟨ef, ep, et⟩, hr⟩ : ∃ y, es[k]? = some y := ⟨_, List.getElem?_eq_getElem hlt⟩
      obtain ⟨ad, rfl, h0, h1, h2⟩ := (HE1.out.below HB.out (Nat.le_refl _)) k _ hr
      dsimp only at h0 h1 h2
      have hkb : k ≤ 1000000 := by omega
      have hts : (es.take (k + 1)).filter f = (es.take k).filter f ++ (if f (ef, ep, et) = true then [(ef, ep, et)] else []) := by
        rw [List.take_add_one, hr, Option.toList_some, List.filter_append]
        congr 1
        rw [List.filter_cons, List.filter_nil]
      have HTS := Lib.hid hts
      have HYM := Lib.hid (List.mem_of_getElem? hr)
      obtain ⟨ac, hac⟩ : ∃ ac, ac = (es.take k).filter f := ⟨_, rfl⟩
      have hal : ac.length ≤ 100000 := by rw [hac]; exact Nat.le_trans (List.length_filter_le _ _) (by rw [List.length_take]; omega)
      rw [← hac] at HTS HOWN HLE4
      simp only [← hac]
      clear hac hts hr
      go_upto_region 4 with (fail)
      obtain ⟨wo, hwo⟩ : ∃ wo : World, wo = wr.alloc (.cells #[.string (U ef), .int .i64 ep, .string (U et)] 50) := ⟨_, rfl⟩
      rw [← hwo]
      have hBo : Below w1.heap.size w1 wo := by rw [hwo]; exact HB.out.alloc (HB.out.size) _
      have hOo := HOWN.out.alloc (.cells #[.string (U ef), .int .i64 ep, .string (U et)] 50)
      have hbs := block_new wr (.cells #[.string (U ef), .int .i64 ep, .string (U et)] 50)
      have hws : wo.heap.size = wr.heap.size + 1 := by rw [hwo]; exact World.size_alloc _ _
      rw [← hwo] at hOo hbs
      have p0 := cell_of_block (j := 0) hbs rfl
      have p1 := cell_of_block (j := 1) hbs rfl
      have p2 := cell_of_block (j := 2) hbs rfl
      have HBO := Lib.hid hBo
      have HOO := Lib.hid hOo
      have HBS := Lib.hid hbs
      have HFY := Lib.hid (HF.out _ HYM.out wo (HB1.out.trans (hBo.mono HB1.out.size)))
      clear hBo hOo hbs hwo h0 h1 h2
      obtain ⟨t, ht⟩ : ∃ t, f (ef, ep, et) = t := ⟨_, rfl⟩
      rw [ht] at HFY
      rw [ht] at HTS
      clear ht
      cases t
      · go_wp2_with (refine HFY.out.mono ?_; rintro ee w2 ⟨rfl, hB2⟩; have HO2 := Lib.hid (own_below HOO.out hB2 (Nat.le_refl _)); have HBT := Lib.hid (HBO.out.trans (hB2.mono HBO.out.size)); clear hB2)
        go_roundw
        case measure => simp [intOf]; omega
        case rel =>
          have hts := HTS.out
          simp only [Bool.false_eq_true, if_false, List.append_nil] at hts
          refine ⟨k + 1, A4, c4, hlt, by go_num, by rw [hts], by rw [hts]; exact HLE4.out, ?_, HBT.out⟩
          rw [hts]
          exact HO2.out
      · go_wp2_with (first
          | (refine HFY.out.mono ?_; rintro ee w2 ⟨rfl, hB2⟩; have hq := (hB2.block wr.heap.size (by omega)).trans HBS.out; clear p0 p1 p2; have p0 := cell_of_block (j := 0) hq rfl; have p1 := cell_of_block (j := 1) hq rfl; have p2 := cell_of_block (j := 2) hq rfl; have HO2 := Lib.hid (own_below HOO.out hB2 (Nat.le_refl _)); have HBT := Lib.hid (HBO.out.trans (hB2.mono HBO.out.size)); clear hB2 hq)
          | (at_builtin; refine wpList_append_lies _ (by rfl) _ _ _ (by rfl) w1.heap.size 50 i50 _ 3 40 Try.underlying24 hi50 hz0 hz1 hz2 rfl (by omega) (.slice A4 ac.length c4) _ _ (by rfl) (HO2.out.alloc _) ⟨w2.heap.size, 0, none⟩ 1 1 [.string (U ef), .int .i64 ep, .string (U et)] (by rfl) (by rfl) (World.news_of_block (cs := #[.string (U ef), .int .i64 ep, .string (U et)]) (t := 50) (fr := (0, 0)) (heap_alloc_new w2 _)) (by simp [Value.oneCell']) (by omega) (by unfold maxLen; omega) (by omega) (by have := HBT.out.size; simp; omega) (w2.heap.size + 1) (by simp) ?_; intro gg cap' w5 hown5 hgrow hat hlt5; have HO5 := Lib.hid hown5; have HG5 := Lib.hid hgrow; clear hown5 hgrow hat hlt5))
        go_roundw
        case measure => simp [intOf]; omega
        case rel =>
          have hts := HTS.out
          simp only [if_true] at hts
          have h5 := HO5.out
          obtain ⟨_, _, he5, hle5⟩ := q_slice (q_of_own h5)
          injection he5 with _ _ he5
          subst he5
          refine ⟨k + 1, some ⟨gg, 0, none⟩, cap', hlt, by go_num, by rw [hts]; simp, by rw [hts]; simpa using hle5, ?_, ?_⟩
          · rw [hts, edgeCells_snoc]
            simpa using h5
          · have hb := HBT.out.alloc HBT.out.size (.cells #[.string (U ef), .int .i64 ep, .string (U et)] 50)
            exact hb.grown HG5.out hb.size (fun q hq => (HO2.out.lt q hq).1)
    · have hke : k = es.length := by omega
      subst hke
      go_wp2_with fail
      go_ret
      have hs1 := HB1.out.size
      have he : es.take es.length = es := List.take_length
      have ho := edgeRow_own HOWN.out
      have hl4 := HLE4.out
      rw [he] at ho hl4
      exact ⟨A4, c4, by rw [he]; rfl, hl4, ho, HB1.out.trans (HB.out.mono hs1)⟩

set_option maxRecDepth 100000 in
theorem edges65_70 (f : S × Int × S → Bool) (c1 : Value) (e : S) (As : Option Addr) (ns cs : Nat) (Ar : Option Addr) (nr cr : Nat) (Ae : Option Addr) (ce : Nat) (x4 x5 : Value) (es : List (S × Int × S)) (w : World) (hE : EdgeRow w Ae es) (hn : es.length ≤ 100000)
    (hF : ∀ y ∈ es, ∀ W, Below w.heap.size w W → Calls Try.prog 70 #[.agg #[.string (U y.1), .int .i64 y.2.1, .string (U y.2.2)], c1] W fun ee w' => ee = .returned (.bool (f y)) ∧ Below W.heap.size W w') :
    Calls Try.prog 65 #[.agg (repV e As ns cs Ar nr cr (.slice Ae es.length ce) x4 x5), .func (.func 70) #[] #[c1]] w fun ee w' => ∃ A c, ee = .returned (.slice A (es.filter f).length c) ∧ (es.filter f).length ≤ c ∧ EdgeRow w' A (es.filter f) ∧ Below w.heap.size w w' := by
  obtain ⟨i50, hi50, hz0, hz1, hz2⟩ := info_parts info50
  have HE := Lib.hid hE
  have HF := Lib.hid hF
  clear hE hF
  unfold repV
  go_enter Try.func65, Try.ntmps65
  go_upto_region 1 with (fail)
  obtain ⟨w1, hw1⟩ : ∃ w1, w1 = w.alloc (.cells #[.string (U e), .slice As ns cs, .slice Ar nr cr, .slice Ae es.length ce, x4, x5] 32) := ⟨_, rfl⟩
  rw [← hw1]
  have hb1 : Below w.heap.size w w1 := by rw [hw1]; exact (Below.refl _ w).alloc (Nat.le_refl _) _
  have hz1' : w1.heap.size = w.heap.size + 1 := by rw [hw1]; exact World.size_alloc _ _
  have hc1 : w1.heap[w.heap.size]? = some (.cells #[.string (U e), .slice As ns cs, .slice Ar nr cr, .slice Ae es.length ce, x4, x5] 32) := by rw [hw1]; exact block_new _ _
  have k3 := cell_of_block (j := 3) hc1 rfl
  have HB1 := Lib.hid hb1
  have HZ1 := Lib.hid hz1'
  have HE1 := Lib.hid (HE.out.below hb1 (Nat.le_refl _))
  clear hb1 hz1' hc1 hw1
  go_wp2
  clear k3
  go_loopw [4, 10] (fun s4 i wr => ∃ (k : Nat) (A4 : Option Addr) (c4 : Nat), k ≤ es.length ∧ i = .int .i64 k ∧ s4 = .slice A4 ((es.take k).filter f).length c4 ∧ ((es.take k).filter f).length ≤ c4 ∧
    wr.ownsRow w1.heap.size 50 3 (.slice A4 ((es.take k).filter f).length c4) ((es.take k).filter f).length (edgeCells ((es.take k).filter f)) ∧ Below w1.heap.size w1 wr) (fun _ i _ => es.length - (intOf i).toNat)
  case atStart =>
    refine ⟨0, none, 0, Nat.zero_le _, rfl, by simp, by simp, ?_, Below.refl _ _⟩
    simpa [edgeCells] using World.ownsRow_nil w1 w1.heap.size 50 3
  case round =>
    obtain ⟨k, A4, c4, hk, rfl, rfl, hle4, hown, hB⟩ := hrel
    have HOWN := Lib.hid hown
    have HB := Lib.hid hB
    have HLE4 := Lib.hid hle4
    clear hown hB hle4
    by_cases hlt : k < es.length
    · obtain ⟨⟨ef, ep, et⟩, hr⟩ : ∃ y, es[k]? = some y := ⟨_, List.getElem?_eq_getElem hlt⟩
      obtain ⟨ad, rfl, h0, h1, h2⟩ := (HE1.out.below HB.out (Nat.le_refl _)) k _ hr
      dsimp only at h0 h1 h2
      have hkb : k ≤ 1000000 := by omega
      have hts : (es.take (k + 1)).filter f = (es.take k).filter f ++ (if f (ef, ep, et) = true then [(ef, ep, et)] else []) := by
        rw [List.take_add_one, hr, Option.toList_some, List.filter_append]
        congr 1
        rw [List.filter_cons, List.filter_nil]
      have HTS := Lib.hid hts
      have HYM := Lib.hid (List.mem_of_getElem? hr)
      obtain ⟨ac, hac⟩ : ∃ ac, ac = (es.take k).filter f := ⟨_, rfl⟩
      have hal : ac.length ≤ 100000 := by rw [hac]; exact Nat.le_trans (List.length_filter_le _ _) (by rw [List.length_take]; omega)
      rw [← hac] at HTS HOWN HLE4
      simp only [← hac]
      clear hac hts hr
      go_upto_region 4 with (fail)
      obtain ⟨wo, hwo⟩ : ∃ wo : World, wo = wr.alloc (.cells #[.string (U ef), .int .i64 ep, .string (U et)] 50) := ⟨_, rfl⟩
      rw [← hwo]
      have hBo : Below w1.heap.size w1 wo := by rw [hwo]; exact HB.out.alloc (HB.out.size) _
      have hOo := HOWN.out.alloc (.cells #[.string (U ef), .int .i64 ep, .string (U et)] 50)
      have hbs := block_new wr (.cells #[.string (U ef), .int .i64 ep, .string (U et)] 50)
      have hws : wo.heap.size = wr.heap.size + 1 := by rw [hwo]; exact World.size_alloc _ _
      rw [← hwo] at hOo hbs
      have p0 := cell_of_block (j := 0) hbs rfl
      have p1 := cell_of_block (j := 1) hbs rfl
      have p2 := cell_of_block (j := 2) hbs rfl
      have HBO := Lib.hid hBo
      have HOO := Lib.hid hOo
      have HBS := Lib.hid hbs
      have HFY := Lib.hid (HF.out _ HYM.out wo (HB1.out.trans (hBo.mono HB1.out.size)))
      clear hBo hOo hbs hwo h0 h1 h2
      obtain ⟨t, ht⟩ : ∃ t, f (ef, ep, et) = t := ⟨_, rfl⟩
      rw [ht] at HFY
      rw [ht] at HTS
      clear ht
      cases t
      · go_wp2_with (refine HFY.out.mono ?_; rintro ee w2 ⟨rfl, hB2⟩; have HO2 := Lib.hid (own_below HOO.out hB2 (Nat.le_refl _)); have HBT := Lib.hid (HBO.out.trans (hB2.mono HBO.out.size)); clear hB2)
        go_roundw
        case measure => simp [intOf]; omega
        case rel =>
          have hts := HTS.out
          simp only [Bool.false_eq_true, if_false, List.append_nil] at hts
          refine ⟨k + 1, A4, c4, hlt, by go_num, by rw [hts], by rw [hts]; exact HLE4.out, ?_, HBT.out⟩
          rw [hts]
          exact HO2.out
      · go_wp2_with (first
          | (refine HFY.out.mono ?_; rintro ee w2 ⟨rfl, hB2⟩; have hq := (hB2.block wr.heap.size (by omega)).trans HBS.out; clear p0 p1 p2; have p0 := cell_of_block (j := 0) hq rfl; have p1 := cell_of_block (j := 1) hq rfl; have p2 := cell_of_block (j := 2) hq rfl; have HO2 := Lib.hid (own_below HOO.out hB2 (Nat.le_refl _)); have HBT := Lib.hid (HBO.out.trans (hB2.mono HBO.out.size)); clear hB2 hq)
          | (at_builtin; refine wpList_append_lies _ (by rfl) _ _ _ (by rfl) w1.heap.size 50 i50 _ 3 40 Try.underlying24 hi50 hz0 hz1 hz2 rfl (by omega) (.slice A4 ac.length c4) _ _ (by rfl) (HO2.out.alloc _) ⟨w2.heap.size, 0, none⟩ 1 1 [.string (U ef), .int .i64 ep, .string (U et)] (by rfl) (by rfl) (World.news_of_block (cs := #[.string (U ef), .int .i64 ep, .string (U et)]) (t := 50) (fr := (0, 0)) (heap_alloc_new w2 _)) (by simp [Value.oneCell']) (by omega) (by unfold maxLen; omega) (by omega) (by have := HBT.out.size; simp; omega) (w2.heap.size + 1) (by simp) ?_; intro gg cap' w5 hown5 hgrow hat hlt5; have HO5 := Lib.hid hown5; have HG5 := Lib.hid hgrow; clear hown5 hgrow hat hlt5))
        go_roundw
        case measure => simp [intOf]; omega
        case rel =>
          have hts := HTS.out
          simp only [if_true] at hts
          have h5 := HO5.out
          obtain ⟨_, _, he5, hle5⟩ := q_slice (q_of_own h5)
          injection he5 with _ _ he5
          subst he5
          refine ⟨k + 1, some ⟨gg, 0, none⟩, cap', hlt, by go_num, by rw [hts]; simp, by rw [hts]; simpa using hle5, ?_, ?_⟩
          · rw [hts, edgeCells_snoc]
            simpa using h5
          · have hb := HBT.out.alloc HBT.out.size (.cells #[.string (U ef), .int .i64 ep, .string (U et)] 50)
            exact hb.grown HG5.out hb.size (fun q hq => (HO2.out.lt q hq).1)
    · have hke : k = es.length := by omega
      subst hke
      go_wp2_with fail
      go_ret
      have hs1 := HB1.out.size
      have he : es.take es.length = es := List.take_length
      have ho := edgeRow_own HOWN.out
      have hl4 := HLE4.out
      rw [he] at ho hl4
      exact ⟨A4, c4, by rw [he]; rfl, hl4, ho, HB1.out.trans (HB.out.mono hs1)⟩

end Go.Proofs.Ytljfknneijmfoaa
