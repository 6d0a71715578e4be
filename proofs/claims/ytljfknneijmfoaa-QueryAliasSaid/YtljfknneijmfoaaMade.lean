import Derived.Test.YtljfknneijmfoaaWho
import Derived.Deep.Slices
namespace Go.Proofs.Ytljfknneijmfoaa
open Go.RowKit Go.Maps Go.WideMaps Go.Lib

theorem info75 : (Try.prog.info? 75).map (fun i => (i.zero, i.size, i.bytes)) = some (some (.agg #[(.string ⟨#[]⟩), (.slice none 0 0)]), 2, 40) := by kernel_rfl

/-- The cells of rows that are handed on: each row's set where it lies. -/
def setCells (AI : Nat → Option Addr × Nat) : List (S × List Int) → Nat → List Value
  | [], _ => []
  | r :: l, j => .string (U r.1) :: .slice (AI j).1 r.2.length (AI j).2 :: setCells AI l (j + 1)

theorem setCells_snoc (AI : Nat → Option Addr × Nat) (l : List (S × List Int)) (j : Nat) (r : S × List Int) : setCells AI (l ++ [r]) j = setCells AI l j ++ [.string (U r.1), .slice (AI (j + l.length)).1 r.2.length (AI (j + l.length)).2] := by
  induction l generalizing j with
  | nil => simp [setCells]
  | cons x l ih =>
    simp only [List.cons_append, setCells, ih, List.length_cons]
    rw [show j + 1 + l.length = j + (l.length + 1) by omega]

theorem setCells_len (AI : Nat → Option Addr × Nat) (l : List (S × List Int)) (j : Nat) : (setCells AI l j).length = l.length * 2 := by
  induction l generalizing j with
  | nil => rfl
  | cons x l ih => simp [setCells, ih]; omega

theorem setCells_get (AI : Nat → Option Addr × Nat) (l : List (S × List Int)) (j k : Nat) (r : S × List Int) (h : l[k]? = some r) :
    (setCells AI l j)[k * 2]? = some (.string (U r.1)) ∧ (setCells AI l j)[k * 2 + 1]? = some (.slice (AI (j + k)).1 r.2.length (AI (j + k)).2) := by
  induction l generalizing j k with
  | nil => simp at h
  | cons x l ih =>
    cases k with
    | zero => simp at h; subst h; simp [setCells]
    | succ k =>
      have := ih (j + 1) k (by simpa using h)
      rw [show (k + 1) * 2 = k * 2 + 1 + 1 by omega, show j + (k + 1) = j + 1 + k by omega]
      simpa [setCells] using this

theorem setRow_of_cells {w' : World} {ad : Addr} {AI : Nat → Option Addr × Nat} {rows : List (S × List Int)} (hc : ∀ (j : Nat) (v : Value), (setCells AI rows 0)[j]? = some v → w'.cell? (ad.add j) = some v)
    (hI : ∀ (k : Nat) (r : S × List Int), rows[k]? = some r → r.2.length ≤ (AI k).2 ∧ IntRow w' (AI k).1 r.2) : SetRow w' (some ad) rows := by
  intro k r hr
  obtain ⟨h1, h2⟩ := setCells_get AI rows 0 k r hr
  obtain ⟨h3, h4⟩ := hI k r hr
  rw [Nat.zero_add] at h2
  refine ⟨_, (AI k).1, (AI k).2, rfl, hc _ _ h1, ?_, h3, h4⟩
  have := hc _ _ h2
  rwa [← Go.Deep.add_add] at this

/-- Six stores into one block leave the others alone. -/
theorem six_far (w : World) (g : Nat) (v0 v1 v2 v3 v4 v5 : Value) (a : Addr) (h : g ≠ a.block) :
    ((((((w.setCell ⟨g, 0, none⟩ v0).setCell ⟨g, 1, none⟩ v1).setCell ⟨g, 2, none⟩ v2).setCell ⟨g, 3, none⟩ v3).setCell ⟨g, 4, none⟩ v4).setCell ⟨g, 5, none⟩ v5).cell? a = w.cell? a := by
  rw [World.cell?_setCell_far _ _ _ _ h, World.cell?_setCell_far _ _ _ _ h, World.cell?_setCell_far _ _ _ _ h, World.cell?_setCell_far _ _ _ _ h, World.cell?_setCell_far _ _ _ _ h, World.cell?_setCell_far _ _ _ _ h]

set_option maxRecDepth 100000 in
theorem made15 (e : S) (As : Option Addr) (ns cs : Nat) (Ar : Option Addr) (cr : Nat) (A3 : Option Addr) (n3 c3 : Nat) (A4 : Option Addr) (n4 c4 : Nat) (A5 : Option Addr) (n5 c5 : Nat) (rows : List (S × List Int)) (w : World) (hR : SetRow w Ar rows) (hn : rows.length ≤ 100000) :
    Calls Try.prog 15 #[.agg (repV e As ns cs Ar rows.length cr (.slice A3 n3 c3) (.slice A4 n4 c4) (.slice A5 n5 c5))] w fun ee w' => ∃ A' c', ee = .returned (.agg (repV e As ns cs A' rows.length c' (.slice A3 n3 c3) (.slice A4 n4 c4) (.slice A5 n5 c5))) ∧ SetRow w' A' rows ∧ Below w.heap.size w w' := by
  obtain ⟨i75, hi5, hz50, hz51, hz52⟩ := info_parts info75
  have HR := Lib.hid hR
  clear hR
  unfold repV
  go_enter Try.func15, Try.ntmps15
  go_wp2
  obtain ⟨AI, hAI⟩ : ∃ AI : Nat → Option Addr × Nat, ∀ (k : Nat) (r : S × List Int), rows[k]? = some r → ∃ ad, Ar = some ad ∧ w.cell? (ad.add (k * 2)) = some (.string (U r.1)) ∧
      w.cell? ⟨(ad.add (k * 2)).block, (ad.add (k * 2)).off + 1, none⟩ = some (.slice (AI k).1 r.2.length (AI k).2) ∧ r.2.length ≤ (AI k).2 ∧ IntRow w (AI k).1 r.2 := by
    have : ∀ k : Nat, ∃ p : Option Addr × Nat, ∀ r : S × List Int, rows[k]? = some r → ∃ ad, Ar = some ad ∧ w.cell? (ad.add (k * 2)) = some (.string (U r.1)) ∧
      w.cell? ⟨(ad.add (k * 2)).block, (ad.add (k * 2)).off + 1, none⟩ = some (.slice p.1 r.2.length p.2) ∧ r.2.length ≤ p.2 ∧ IntRow w p.1 r.2 := by
      intro k
      cases hr : rows[k]? with
      | none => exact ⟨(none, 0), fun r h => by cases h⟩
      | some r0 =>
        obtain ⟨ad, Ai, ci, h1, h2, h3, h4, h5⟩ := HR.out k r0 hr
        exact ⟨(Ai, ci), fun r h => by cases h; exact ⟨ad, h1, h2, h3, h4, h5⟩⟩
    exact ⟨fun k => Classical.choose (this k), fun k => Classical.choose_spec (this k)⟩
  have HAI := Lib.hid hAI
  clear hAI
  obtain ⟨w1, hw1⟩ : ∃ w1, w1 = (w.alloc (.cells #[.string (U e), .slice As ns cs, .slice Ar rows.length cr, .slice A3 n3 c3, .slice A4 n4 c4, .slice A5 n5 c5] 26)).alloc (.cells #[.string ⟨#[]⟩, .slice none 0 0, .slice none 0 0, .slice none 0 0, .slice none 0 0, .slice none 0 0] 32) := ⟨_, rfl⟩
  rw [← hw1]
  have hb1 : Below w.heap.size w w1 := by rw [hw1]; exact ((Below.refl _ w).alloc (Nat.le_refl _) _).alloc (by simp) _
  have hz1 : w1.heap.size = w.heap.size + 1 + 1 := by rw [hw1, World.size_alloc, World.size_alloc]
  have hc1 : w1.heap[w.heap.size]? = some (.cells #[.string (U e), .slice As ns cs, .slice Ar rows.length cr, .slice A3 n3 c3, .slice A4 n4 c4, .slice A5 n5 c5] 26) := by rw [hw1, Below.heap_alloc _ _ _ (by simp)]; exact block_new _ _
  have hc2 : w1.heap[w.heap.size + 1]? = some (.cells #[.string ⟨#[]⟩, .slice none 0 0, .slice none 0 0, .slice none 0 0, .slice none 0 0, .slice none 0 0] 32) := by
    have := block_new (w.alloc (.cells #[.string (U e), .slice As ns cs, .slice Ar rows.length cr, .slice A3 n3 c3, .slice A4 n4 c4, .slice A5 n5 c5] 26)) (.cells #[.string ⟨#[]⟩, .slice none 0 0, .slice none 0 0, .slice none 0 0, .slice none 0 0, .slice none 0 0] 32)
    rw [World.size_alloc] at this
    rw [hw1]
    exact this
  have HB1 := Lib.hid hb1
  have HZ1 := Lib.hid hz1
  have HC1 := Lib.hid hc1
  have HC2 := Lib.hid hc2
  clear hb1 hz1 hc1 hc2 hw1
  go_loopw [3, 4] (fun s3 s4 wr => ∃ (k : Nat) (B3 : Option Addr) (d3 : Nat), k ≤ rows.length ∧ s4 = .int .i64 k ∧ s3 = .slice B3 k d3 ∧ wr.ownsRow w1.heap.size 75 2 (.slice B3 k d3) k (setCells AI (rows.take k) 0) ∧ Below w1.heap.size w1 wr) (fun _ i _ => rows.length - (intOf i).toNat)
  case atStart =>
    refine ⟨0, none, 0, Nat.zero_le _, rfl, rfl, ?_, Below.refl _ _⟩
    simpa [setCells] using World.ownsRow_nil w1 w1.heap.size 75 2
  case round =>
    obtain ⟨k, B3, d3, hk, rfl, rfl, hown, hB⟩ := hrel
    have HOWN := Lib.hid hown
    have HB := Lib.hid hB
    clear hown hB
    have hcc := (HB.out.block w.heap.size (by have := HZ1.out; omega)).trans HC1.out
    have k0 := cell_of_block (j := 0) hcc rfl
    have k1 := cell_of_block (j := 1) hcc rfl
    have k2 := cell_of_block (j := 2) hcc rfl
    have k3 := cell_of_block (j := 3) hcc rfl
    have k4 := cell_of_block (j := 4) hcc rfl
    have k5 := cell_of_block (j := 5) hcc rfl
    have HCC := Lib.hid hcc
    clear hcc
    by_cases hlt : k < rows.length
    · obtain ⟨⟨rv, rz⟩, hr⟩ : ∃ r, rows[k]? = some r := ⟨_, List.getElem?_eq_getElem hlt⟩
      obtain ⟨ad, rfl, h0, h1, hci, hzr⟩ := HAI.out k _ hr
      dsimp only at h0 h1 hci hzr
      have lt0 := World.block_lt_of_cell? w _ h0
      have hb := HB1.out.trans (HB.out.mono HB1.out.size)
      replace h0 := (hb.cell lt0).trans h0
      replace h1 := (hb.cell (p := ⟨(ad.add (k * 2)).block, _, none⟩) lt0).trans h1
      have hkb : k ≤ 1000000 := by omega
      have HZR := Lib.hid hzr
      have HRR := Lib.hid hr
      have hzz := HB.out.size
      have hz2 := HZ1.out
      have hne1 : (Value.slice B3 k d3).ownBlock ≠ some w.heap.size := by
        intro h
        have := (HOWN.out.lt w.heap.size h).1
        omega
      have hne2 : (Value.slice B3 k d3).ownBlock ≠ some (ad.add (k * 2)).block := by
        intro h
        have := (HOWN.out.lt _ h).1
        omega
      clear hzr hr hb
      have hws : w.heap.size < wr.heap.size + 1 := by omega
      have hwa : (ad.add (k * 2)).block < wr.heap.size + 1 := by omega
      have HE1 := Lib.hid hne1
      have HE2 := Lib.hid hne2
      clear hne1 hne2 k0 k1 k3 k4 k5 hz2
      go_upto_region 5 with (fail)
      go_region_held3 (fun w' => w'.cell? ⟨w.heap.size, 2, none⟩ = some (.slice (some ad) rows.length cr) ∧ w'.cell? (ad.add (k * 2)) = some (.string (U rv)) ∧ w'.cell? ⟨(ad.add (k * 2)).block, (ad.add (k * 2)).off + 1, none⟩ = some (.slice (AI k).1 rz.length (AI k).2))
        (first
          | (go_split_ands
             refine ⟨by go_keep, by go_keep, by go_keep⟩)
          | (go_split_ands
             refine ⟨?_, ?_, ?_⟩
             · (rw [hgrow.cell_far ⟨w.heap.size, 2, none⟩ (by simp; omega) (Ne.symm HE1.out)]; assumption)
             · (rw [hgrow.cell_far (ad.add (k * 2)) (by simp; omega) (Ne.symm HE2.out)]; assumption)
             · (rw [hgrow.cell_far ⟨(ad.add (k * 2)).block, (ad.add (k * 2)).off + 1, none⟩ (by simp; omega) (Ne.symm HE2.out)]; assumption)))
        ((refine step_append_lies _ (by rfl) _ _ _ (by rfl) w1.heap.size 75 i75 _ 2 40 Try.underlying30 hi5 hz50 hz51 hz52 rfl (by omega) (.slice B3 k d3) _ _ (by rfl) ((HOWN.out.alloc _).drew)
            ⟨wr.heap.size, 0, none⟩ 1 1 [.string (U rv), .slice (AI k).1 rz.length (AI k).2] (by rfl) (by rfl) (World.news_of_block (cs := #[.string (U rv), .slice (AI k).1 rz.length (AI k).2]) (t := 75) (fr := (0, 0)) (heap_alloc_new wr _)) (by simp [Value.oneCell'])
            (by omega) (by unfold maxLen; omega) (by omega) (by simp; omega) (wr.heap.size + 1) (by simp) ?_; intro gg cap' w3 hown3 hgrow hat hlt3))
      all_goals
        clear k2 h0 h1
        go_wp2
        go_roundw
        case measure => simp [intOf]; omega
        case rel =>
          refine ⟨k + 1, some ⟨gg, 0, none⟩, cap', hlt, by go_num, rfl, ?_, ?_⟩
          · have hs := setCells_snoc AI (rows.take k) 0 (rv, rz)
            have ht : rows.take (k + 1) = rows.take k ++ [(rv, rz)] := by rw [List.take_add_one, HRR.out]; rfl
            rw [List.length_take, Nat.min_eq_left (by omega), Nat.zero_add] at hs
            rw [ht, hs]
            exact hown3
          · exact ((HB.out.alloc HB.out.size _).drew).grown hgrow (by simp; omega) (fun q hq => (HOWN.out.lt q hq).1)
    · have hke : k = rows.length := by omega
      subst hke
      have hc2 := (HB.out.block (w.heap.size + 1) (by have := HZ1.out; omega)).trans HC2.out
      have f0 := frozen_of_block (j := 0) hc2
      have f1 := frozen_of_block (j := 1) hc2
      have f2 := frozen_of_block (j := 2) hc2
      have f3 := frozen_of_block (j := 3) hc2
      have f4 := frozen_of_block (j := 4) hc2
      have f5 := frozen_of_block (j := 5) hc2
      have l0 := cell_of_block (j := 0) hc2 rfl
      have l1 := cell_of_block (j := 1) hc2 rfl
      have l2 := cell_of_block (j := 2) hc2 rfl
      have l3 := cell_of_block (j := 3) hc2 rfl
      have l4 := cell_of_block (j := 4) hc2 rfl
      have l5 := cell_of_block (j := 5) hc2 rfl
      have HC3 := Lib.hid hc2
      clear hc2
      go_wp2
      have hs1 := HB1.out.size
      have hz := HZ1.out
      have hbw : Below w.heap.size w ((((((wr.setCell ⟨w.heap.size + 1, 0, none⟩ (.string (U e))).setCell ⟨w.heap.size + 1, 1, none⟩ (.slice As ns cs)).setCell ⟨w.heap.size + 1, 2, none⟩ (.slice B3 rows.length d3)).setCell ⟨w.heap.size + 1, 3, none⟩ (.slice A3 n3 c3)).setCell
          ⟨w.heap.size + 1, 4, none⟩ (.slice A4 n4 c4)).setCell ⟨w.heap.size + 1, 5, none⟩ (.slice A5 n5 c5)) :=
        (((((((HB1.out.trans (HB.out.mono hs1)).setCell (by simp) _).setCell (by simp) _).setCell (by simp) _).setCell (by simp) _).setCell (by simp) _).setCell (by simp) _)
      refine bodyPost_ret (v := .agg #[.string (U e), .slice As ns cs, .slice B3 rows.length d3, .slice A3 n3 c3, .slice A4 n4 c4, .slice A5 n5 c5]) (by simp [results, Try.results15, go_sem, l0, l1, l2, l3, l4, l5]) rfl ⟨B3, d3, rfl, ?_, hbw⟩
      have hI : ∀ (k : Nat) (r : S × List Int), rows[k]? = some r → r.2.length ≤ (AI k).2 ∧ IntRow _ (AI k).1 r.2 := fun k r hr => by
        obtain ⟨_, _, _, _, h4, h5⟩ := HAI.out k r hr
        exact ⟨h4, h5.below hbw (Nat.le_refl _)⟩
      by_cases h0 : rows.length = 0
      · rw [List.length_eq_zero_iff.1 h0]
        intro k r hr
        simp at hr
      · have ho := HOWN.out
        rw [List.take_length] at ho
        have hlt := ho.lt
        obtain ⟨ad, rfl, hc⟩ := Go.Proofs.YtljfknneijmfoaaW.PrintWords.q_cells (Go.Proofs.YtljfknneijmfoaaW.PrintWords.q_of_own ho) (by omega)
        refine setRow_of_cells (fun j v hv => ?_) hI
        rw [six_far]
        · exact hc j v hv
        · have := (hlt ad.block rfl).1
          have e : (ad.add j).block = ad.block := by unfold Addr.add; split <;> rfl
          rw [e]
          omega
end Go.Proofs.Ytljfknneijmfoaa
