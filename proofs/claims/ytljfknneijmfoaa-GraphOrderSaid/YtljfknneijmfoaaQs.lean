import Derived.Test.YtljfknneijmfoaaWho
import Derived.Deep.Slices
import Derived.Test.YtljfknneijmfoaaPts
import Derived.Deep.Fields
import Derived.ChangeSame
import Derived.Lib.SmallJoins
import Derived.SliceStrings
import Derived.Test.YtljfknneijmfoaaFq
namespace Go.Proofs.Ytljfknneijmfoaa
open Go.RowKit Go.Maps Go.WideMaps Go.Lib

theorem info75 : (Try.prog.info? 75).map (fun i => (i.zero, i.size, i.bytes)) = some (some (.agg #[(.string ⟨#[]⟩), (.slice none 0 0)]), 2, 40) := by kernel_rfl

/-- The cells of rows that are handed on: each row's set where it lies. -/
def setCells (AI : Nat → Option Addr × Nat) : List (S × List Int) → Nat → List Value
  | [], _ => []
  | r :: l, j => .string (U r.1) :: .slice (AI j).1 r.2.length (AI j).2 :: setCells AI l (j + 1)

theorem setCells_snoc (AI : Nat → Option Addr × Nat) (l : List (S × List Int)) (j : Nat) (r : S × List Int) : setCells AI (l ++ [r]) j = setCells AI l j ++ [.string (U r.1), .slice (AI (j + l.length)).1 r.2.length (AI (j + l.length)).2] := by
  induction l generalizing j with
  | nil => simp [setCells]
  | cons x l ih =>
    simp only [List.cons_append, setCells, ih, List.length_cons]
    rw [show j + 1 + l.length = j + (l.length + 1) by omega]

theorem setCells_len (AI : Nat → Option Addr × Nat) (l : List (S × List Int)) (j : Nat) : (setCells AI l j).length = l.length * 2 := by
  induction l generalizing j with
  | nil => rfl
  | cons x l ih => simp [setCells, ih]; omega

theorem setCells_get (AI : Nat → Option Addr × Nat) (l : List (S × List Int)) (j k : Nat) (r : S × List Int) (h : l[k]? = some r) :
    (setCells AI l j)[k * 2]? = some (.string (U r.1)) ∧ (setCells AI l j)[k * 2 + 1]? = some (.slice (AI (j + k)).1 r.2.length (AI (j + k)).2) := by
  induction l generalizing j k with
  | nil => simp at h
  | cons x l ih =>
    cases k with
    | zero => simp at h; subst h; simp [setCells]
    | succ k =>
      have := ih (j + 1) k (by simpa using h)
      rw [show (k + 1) * 2 = k * 2 + 1 + 1 by omega, show j + (k + 1) = j + 1 + k by omega]
      simpa [setCells] using this

theorem setRow_of_cells {w' : World} {ad : Addr} {AI : Nat → Option Addr × Nat} {rows : List (S × List Int)} (hc : ∀ (j : Nat) (v : Value), (setCells AI rows 0)[j]? = some v → w'.cell? (ad.add j) = some v)
    (hI : ∀ (k : Nat) (r : S × List Int), rows[k]? = some r → r.2.length ≤ (AI k).2 ∧ IntRow w' (AI k).1 r.2) : SetRow w' (some ad) rows := by
  intro k r hr
  obtain ⟨h1, h2⟩ := setCells_get AI rows 0 k r hr
  obtain ⟨h3, h4⟩ := hI k r hr
  rw [Nat.zero_add] at h2
  refine ⟨_, (AI k).1, (AI k).2, rfl, hc _ _ h1, ?_, h3, h4⟩
  have := hc _ _ h2
  rwa [← Go.Deep.add_add] at this

/-- Six stores into one block leave the others alone. -/
theorem six_far (w : World) (g : Nat) (v0 v1 v2 v3 v4 v5 : Value) (a : Addr) (h : g ≠ a.block) :
    ((((((w.setCell ⟨g, 0, none⟩ v0).setCell ⟨g, 1, none⟩ v1).setCell ⟨g, 2, none⟩ v2).setCell ⟨g, 3, none⟩ v3).setCell ⟨g, 4, none⟩ v4).setCell ⟨g, 5, none⟩ v5).cell? a = w.cell? a := by
  rw [World.cell?_setCell_far _ _ _ _ h, World.cell?_setCell_far _ _ _ _ h, World.cell?_setCell_far _ _ _ _ h, World.cell?_setCell_far _ _ _ _ h, World.cell?_setCell_far _ _ _ _ h, World.cell?_setCell_far _ _ _ _ h]

set_option maxRecDepth 100000 in
theorem made15 (e : S) (As : Option Addr) (ns cs : Nat) (Ar : Option Addr) (cr : Nat) (A3 : Option Addr) (n3 c3 : Nat) (A4 : Option Addr) (n4 c4 : Nat) (A5 : Option Addr) (n5 c5 : Nat) (rows : List (S × List Int)) (w : World) (hR : SetRow w Ar rows) (hn : rows.length ≤ 100000) :
    Calls Try.prog 15 #[.agg (repV e As ns cs Ar rows.length cr (.slice A3 n3 c3) (.slice A4 n4 c4) (.slice A5 n5 c5))] w fun ee w' => ∃ A' c', ee = .returned (.agg (repV e As ns cs A' rows.length c' (.slice A3 n3 c3) (.slice A4 n4 c4) (.slice A5 n5 c5))) ∧ SetRow w' A' rows ∧ Below w.heap.size w w' := by
  obtain ⟨i75, hi5, hz50, hz51, hz52⟩ := info_parts info75
  have HR := Lib.hid hR
  clear hR
  unfold repV
  go_enter Try.func15, Try.ntmps15
  go_wp2
  obtain ⟨AI, hAI⟩ : ∃ AI : Nat → Option Addr × Nat, ∀ (k : Nat) (r : S × List Int), rows[k]? = some r → ∃ ad, Ar = some ad ∧ w.cell? (ad.add (k * 2)) = some (.string (U r.1)) ∧
      w.cell? ⟨(ad.add (k * 2)).block, (ad.add (k * 2)).off + 1, none⟩ = some (.slice (AI k).1 r.2.length (AI k).2) ∧ r.2.length ≤ (AI k).2 ∧ IntRow w (AI k).1 r.2 := by
    have : ∀ k : Nat, ∃ p : Option Addr × Nat, ∀ r : S × List Int, rows[k]? = some r → ∃ ad, Ar = some ad ∧ w.cell? (ad.add (k * 2)) = some (.string (U r.1)) ∧
      w.cell? ⟨(ad.add (k * 2)).block, (ad.add (k * 2)).off + 1, none⟩ = some (.slice p.1 r.2.length p.2) ∧ r.2.length ≤ p.2 ∧ IntRow w p.1 r.2 := by
      intro k
      cases hr : rows[k]? with
      | none => exact ⟨(none, 0), fun r h => by cases h⟩
      | some r0 =>
        obtain ⟨ad, Ai, ci, h1, h2, h3, h4, h5⟩ := HR.out k r0 hr
        exact ⟨(Ai, ci), fun r h => by cases h; exact ⟨ad, h1, h2, h3, h4, h5⟩⟩
    exact ⟨fun k => Classical.choose (this k), fun k => Classical.choose_spec (this k)⟩
  have HAI := Lib.hid hAI
  clear hAI
  obtain ⟨w1, hw1⟩ : ∃ w1, w1 = (w.alloc (.cells #[.string (U e), .slice As ns cs, .slice Ar rows.length cr, .slice A3 n3 c3, .slice A4 n4 c4, .slice A5 n5 c5] 26)).alloc (.cells #[.string ⟨#[]⟩, .slice none 0 0, .slice none 0 0, .slice none 0 0, .slice none 0 0, .slice none 0 0] 32) := ⟨_, rfl⟩
  rw [← hw1]
  have hb1 : Below w.heap.size w w1 := by rw [hw1]; exact ((Below.refl _ w).alloc (Nat.le_refl _) _).alloc (by simp) _
  have hz1 : w1.heap.size = w.heap.size + 1 + 1 := by rw [hw1, World.size_alloc, World.size_alloc]
  have hc1 : w1.heap[w.heap.size]? = some (.cells #[.string (U e), .slice As ns cs, .slice Ar rows.length cr, .slice A3 n3 c3, .slice A4 n4 c4, .slice A5 n5 c5] 26) := by rw [hw1, Below.heap_alloc _ _ _ (by simp)]; exact block_new _ _
  have hc2 : w1.heap[w.heap.size + 1]? = some (.cells #[.string ⟨#[]⟩, .slice none 0 0, .slice none 0 0, .slice none 0 0, .slice none 0 0, .slice none 0 0] 32) := by
    have := block_new (w.alloc (.cells #[.string (U e), .slice As ns cs, .slice Ar rows.length cr, .slice A3 n3 c3, .slice A4 n4 c4, .slice A5 n5 c5] 26)) (.cells #[.string ⟨#[]⟩, .slice none 0 0, .slice none 0 0, .slice none 0 0, .slice none 0 0, .slice none 0 0] 32)
    rw [World.size_alloc] at this
    rw [hw1]
    exact this
  have HB1 := Lib.hid hb1
  have HZ1 := Lib.hid hz1
  have HC1 := Lib.hid hc1
  have HC2 := Lib.hid hc2
  clear hb1 hz1 hc1 hc2 hw1
  go_loopw [3, 4] (fun s3 s4 wr => ∃ (k : Nat) (B3 : Option Addr) (d3 : Nat), k ≤ rows.length ∧ s4 = .int .i64 k ∧ s3 = .slice B3 k d3 ∧ wr.ownsRow w1.heap.size 75 2 (.slice B3 k d3) k (setCells AI (rows.take k) 0) ∧ Below w1.heap.size w1 wr) (fun _ i _ => rows.length - (intOf i).toNat)
  case atStart =>
    refine ⟨0, none, 0, Nat.zero_le _, rfl, rfl, ?_, Below.refl _ _⟩
    simpa [setCells] using World.ownsRow_nil w1 w1.heap.size 75 2
  case round =>
    obtain ⟨k, B3, d3, hk, rfl, rfl, hown, hB⟩ := hrel
    have HOWN := Lib.hid hown
    have HB := Lib.hid hB
    clear hown hB
    have hcc := (HB.out.block w.heap.size (by have := HZ1.out; omega)).trans HC1.out
    have k0 := cell_of_block (j := 0) hcc rfl
    have k1 := cell_of_block (j := 1) hcc rfl
    have k2 := cell_of_block (j := 2) hcc rfl
    have k3 := cell_of_block (j := 3) hcc rfl
    have k4 := cell_of_block (j := 4) hcc rfl
    have k5 := cell_of_block (j := 5) hcc rfl
    have HCC := Lib.hid hcc
    clear hcc
    by_cases hlt : k < rows.length
    · obtain ⟨⟨rv, rz⟩, hr⟩ : ∃ r, rows[k]? = some r := ⟨_, List.getElem?_eq_getElem hlt⟩
      obtain ⟨ad, rfl, h0, h1, hci, hzr⟩ := HAI.out k _ hr
      dsimp only at h0 h1 hci hzr
      have lt0 := World.block_lt_of_cell? w _ h0
      have hb := HB1.out.trans (HB.out.mono HB1.out.size)
      replace h0 := (hb.cell lt0).trans h0
      replace h1 := (hb.cell (p := ⟨(ad.add (k * 2)).block, _, none⟩) lt0).trans h1
      have hkb : k ≤ 1000000 := by omega
      have HZR := Lib.hid hzr
      have HRR := Lib.hid hr
      have hzz := HB.out.size
      have hz2 := HZ1.out
      have hne1 : (Value.slice B3 k d3).ownBlock ≠ some w.heap.size := by
        intro h
        have := (HOWN.out.lt w.heap.size h).1
        omega
      have hne2 : (Value.slice B3 k d3).ownBlock ≠ some (ad.add (k * 2)).block := by
        intro h
        have := (HOWN.out.lt _ h).1
        omega
      clear hzr hr hb
      have hws : w.heap.size < wr.heap.size + 1 := by omega
      have hwa : (ad.add (k * 2)).block < wr.heap.size + 1 := by omega
      have HE1 := Lib.hid hne1
      have HE2 := Lib.hid hne2
      clear hne1 hne2 k0 k1 k3 k4 k5 hz2
      go_upto_region 5 with (fail)
      go_region_held3 (fun w' => w'.cell? ⟨w.heap.size, 2, none⟩ = some (.slice (some ad) rows.length cr) ∧ w'.cell? (ad.add (k * 2)) = some (.string (U rv)) ∧ w'.cell? ⟨(ad.add (k * 2)).block, (ad.add (k * 2)).off + 1, none⟩ = some (.slice (AI k).1 rz.length (AI k).2))
        (first
          | (go_split_ands
             refine ⟨by go_keep, by go_keep, by go_keep⟩)
          | (go_split_ands
             refine ⟨?_, ?_, ?_⟩
             · (rw [hgrow.cell_far ⟨w.heap.size, 2, none⟩ (by simp; omega) (Ne.symm HE1.out)]; assumption)
             · (rw [hgrow.cell_far (ad.add (k * 2)) (by simp; omega) (Ne.symm HE2.out)]; assumption)
             · (rw [hgrow.cell_far ⟨(ad.add (k * 2)).block, (ad.add (k * 2)).off + 1, none⟩ (by simp; omega) (Ne.symm HE2.out)]; assumption)))
        ((refine step_append_lies _ (by rfl) _ _ _ (by rfl) w1.heap.size 75 i75 _ 2 40 Try.underlying30 hi5 hz50 hz51 hz52 rfl (by omega) (.slice B3 k d3) _ _ (by rfl) ((HOWN.out.alloc _).drew)
            ⟨wr.heap.size, 0, none⟩ 1 1 [.string (U rv), .slice (AI k).1 rz.length (AI k).2] (by rfl) (by rfl) (World.news_of_block (cs := #[.string (U rv), .slice (AI k).1 rz.length (AI k).2]) (t := 75) (fr := (0, 0)) (heap_alloc_new wr _)) (by simp [Value.oneCell'])
            (by omega) (by unfold maxLen; omega) (by omega) (by simp; omega) (wr.heap.size + 1) (by simp) ?_; intro gg cap' w3 hown3 hgrow hat hlt3))
      all_goals
        clear k2 h0 h1
        go_wp2
        go_roundw
        case measure => simp [intOf]; omega
        case rel =>
          refine ⟨k + 1, some ⟨gg, 0, none⟩, cap', hlt, by go_num, rfl, ?_, ?_⟩
          · have hs := setCells_snoc AI (rows.take k) 0 (rv, rz)
            have ht : rows.take (k + 1) = rows.take k ++ [(rv, rz)] := by rw [List.take_add_one, HRR.out]; rfl
            rw [List.length_take, Nat.min_eq_left (by omega), Nat.zero_add] at hs
            rw [ht, hs]
            exact hown3
          · exact ((HB.out.alloc HB.out.size _).drew).grown hgrow (by simp; omega) (fun q hq => (HOWN.out.lt q hq).1)
    · have hke : k = rows.length := by omega
      subst hke
      have hc2 := (HB.out.block (w.heap.size + 1) (by have := HZ1.out; omega)).trans HC2.out
      have f0 := frozen_of_block (j := 0) hc2
      have f1 := frozen_of_block (j := 1) hc2
      have f2 := frozen_of_block (j := 2) hc2
      have f3 := frozen_of_block (j := 3) hc2
      have f4 := frozen_of_block (j := 4) hc2
      have f5 := frozen_of_block (j := 5) hc2
      have l0 := cell_of_block (j := 0) hc2 rfl
      have l1 := cell_of_block (j := 1) hc2 rfl
      have l2 := cell_of_block (j := 2) hc2 rfl
      have l3 := cell_of_block (j := 3) hc2 rfl
      have l4 := cell_of_block (j := 4) hc2 rfl
      have l5 := cell_of_block (j := 5) hc2 rfl
      have HC3 := Lib.hid hc2
      clear hc2
      go_wp2
      have hs1 := HB1.out.size
      have hz := HZ1.out
      have hbw : Below w.heap.size w ((((((wr.setCell ⟨w.heap.size + 1, 0, none⟩ (.string (U e))).setCell ⟨w.heap.size + 1, 1, none⟩ (.slice As ns cs)).setCell ⟨w.heap.size + 1, 2, none⟩ (.slice B3 rows.length d3)).setCell ⟨w.heap.size + 1, 3, none⟩ (.slice A3 n3 c3)).setCell
          ⟨w.heap.size + 1, 4, none⟩ (.slice A4 n4 c4)).setCell ⟨w.heap.size + 1, 5, none⟩ (.slice A5 n5 c5)) :=
        (((((((HB1.out.trans (HB.out.mono hs1)).setCell (by simp) _).setCell (by simp) _).setCell (by simp) _).setCell (by simp) _).setCell (by simp) _).setCell (by simp) _)
      refine bodyPost_ret (v := .agg #[.string (U e), .slice As ns cs, .slice B3 rows.length d3, .slice A3 n3 c3, .slice A4 n4 c4, .slice A5 n5 c5]) (by simp [results, Try.results15, go_sem, l0, l1, l2, l3, l4, l5]) rfl ⟨B3, d3, rfl, ?_, hbw⟩
      have hI : ∀ (k : Nat) (r : S × List Int), rows[k]? = some r → r.2.length ≤ (AI k).2 ∧ IntRow _ (AI k).1 r.2 := fun k r hr => by
        obtain ⟨_, _, _, _, h4, h5⟩ := HAI.out k r hr
        exact ⟨h4, h5.below hbw (Nat.le_refl _)⟩
      by_cases h0 : rows.length = 0
      · rw [List.length_eq_zero_iff.1 h0]
        intro k r hr
        simp at hr
      · have ho := HOWN.out
        rw [List.take_length] at ho
        have hlt := ho.lt
        obtain ⟨ad, rfl, hc⟩ := Go.Proofs.YtljfknneijmfoaaW.PrintWords.q_cells (Go.Proofs.YtljfknneijmfoaaW.PrintWords.q_of_own ho) (by omega)
        refine setRow_of_cells (fun j v hv => ?_) hI
        rw [six_far]
        · exact hc j v hv
        · have := (hlt ad.block rfl).1
          have e : (ad.add j).block = ad.block := by unfold Addr.add; split <;> rfl
          rw [e]
          omega
end Go.Proofs.Ytljfknneijmfoaa

namespace Go.Proofs.Ytljfknneijmfoaa
open Go.ChangeShapes Go.WideShapes Go.Deep Go.Joins Go.RowKit

section
variable {H : Type} {enc : TypeId × Value → H} {w : World} {base : Nat} {spare : Nat → Bool} {held : Bool}

theorem cells9 : Try.prog.cellsOf 9 = 1 := by kernel_rfl
theorem cells3 : Try.prog.cellsOf 3 = 1 := by kernel_rfl
theorem cells74 : Try.prog.cellsOf 74 = 2 := by kernel_rfl
theorem cells50 : Try.prog.cellsOf 50 = 3 := by kernel_rfl
theorem cells26 : Try.prog.cellsOf 26 = 6 := by kernel_rfl
theorem cells22 : Try.prog.cellsOf 22 = 1 := by kernel_rfl
theorem cells23 : Try.prog.cellsOf 23 = 1 := by kernel_rfl
theorem cells24 : Try.prog.cellsOf 24 = 1 := by kernel_rfl
theorem cells72 : Try.prog.cellsOf 72 = 1 := by kernel_rfl

/-- A slice of strings that came in. -/
theorem open_strs {fuel : Nat} {cs : List Value} {x : DataW H × List MemPlace} (h : DataW.trod enc Try.prog w base spare held fuel 22 cs = some x) :
    ∃ A c xs, cs = [.slice A xs.length c] ∧ xs.length ≤ c ∧ c ≤ maxLen ∧ StrRow w A xs ∧ ∀ y ∈ xs, y.length ≤ maxLen := by
  rcases open_strings Try.underlying22 Try.underlying9 cells9 h with ⟨rfl, _⟩ | ⟨a, len, cap, ss, rfl, _, hl, hm, hz, _, hc, hs⟩
  · exact ⟨none, 0, [], rfl, Nat.le_refl _, by unfold maxLen; omega, fun k x hx => by simp at hx, fun y hy => by cases hy⟩
  · have hle : len ≤ ss.length := by rw [hz]; split <;> omega
    refine ⟨some a, cap, (ss.take len).map B, by simp [Nat.min_eq_left hle], by simp; omega, hm, fun k x hx => ?_, fun y hy => ?_⟩
    · rw [List.getElem?_map, Option.map_eq_some_iff] at hx
      obtain ⟨s, hs', rfl⟩ := hx
      have hk : k < len := by
        have := (List.getElem?_eq_some_iff.1 hs').1
        simp at this; omega
      rw [List.getElem?_take_of_lt hk] at hs'
      refine ⟨a, rfl, ?_⟩
      rw [hc k (by omega), U_B]
      simp [List.getD_eq_getElem?_getD, hs']
    · obtain ⟨s, hs', rfl⟩ := List.mem_map.1 hy
      rw [size_B]
      exact hs s (List.mem_of_mem_take hs')

theorem wf64 {z : Int} (h : (Lit.int .i64 z).wf = true) : -9223372036854775808 ≤ z ∧ z ≤ 9223372036854775807 := by
  have h1 : IntKind.i64.min = -9223372036854775808 := by decide
  have h2 : IntKind.i64.max = 9223372036854775807 := by decide
  simpa [Lit.wf, h1, h2] using h

/-- A slice of ints that came in. -/
theorem open_nums {fuel : Nat} {cs : List Value} {x : DataW H × List MemPlace} (h : DataW.trod enc Try.prog w base spare held fuel 72 cs = some x) :
    ∃ A c zs, cs = [.slice A zs.length c] ∧ zs.length ≤ c ∧ c ≤ maxLen ∧ IntRow w A zs ∧ ∀ z ∈ zs, -9223372036854775808 ≤ z ∧ z ≤ 9223372036854775807 := by
  rcases open_ints Try.underlying72 Try.underlying3 cells3 h with ⟨rfl, _⟩ | ⟨a, len, cap, ss, rfl, _, hl, hm, hz, _, hc, hs⟩
  · exact ⟨none, 0, [], rfl, Nat.le_refl _, by unfold maxLen; omega, fun k x hx => by simp at hx, fun y hy => by cases hy⟩
  · have hle : len ≤ ss.length := by rw [hz]; split <;> omega
    refine ⟨some a, cap, ss.take len, by simp [Nat.min_eq_left hle], by simp; omega, hm, fun k x hx => ?_, fun y hy => ?_⟩
    · have hk : k < len := by
        have := (List.getElem?_eq_some_iff.1 hx).1
        simp at this; omega
      rw [List.getElem?_take_of_lt hk] at hx
      refine ⟨a, rfl, ?_⟩
      rw [hc k (by omega)]
      simp [List.getD_eq_getElem?_getD, hx]
    · exact wf64 (hs y (List.mem_of_mem_take hy))

theorem list2 {α : Type} {l : List α} (h : l.length = 2) : ∃ a b, l = [a, b] := by
  match l, h with
  | [a, b], _ => exact ⟨a, b, rfl⟩
theorem list3 {α : Type} {l : List α} (h : l.length = 3) : ∃ a b c, l = [a, b, c] := by
  match l, h with
  | [a, b, c], _ => exact ⟨a, b, c, rfl⟩
theorem list6 {α : Type} {l : List α} (h : l.length = 6) : ∃ a b c d e f, l = [a, b, c, d, e, f] := by
  match l, h with
  | [a, b, c, d, e, f], _ => exact ⟨a, b, c, d, e, f, rfl⟩
theorem array6 {α : Type} {l : Array α} (h : l.size = 6) : ∃ a b c d e f, l = #[a, b, c, d, e, f] := by
  obtain ⟨l⟩ := l
  obtain ⟨a, b, c, d, e, f, rfl⟩ := list6 (l := l) h
  exact ⟨a, b, c, d, e, f, rfl⟩
theorem add_one (a : Addr) (n : Nat) : a.add (n + 1) = ⟨a.block, a.off + (n + 1), none⟩ := rfl

/-- A slice of rows (of a variable, and its numbers) that came in. -/
theorem open_sets {fuel : Nat} {cs : List Value} {x : DataW H × List MemPlace} (h : DataW.trod enc Try.prog w base spare held fuel 23 cs = some x) :
    ∃ A c rows, cs = [.slice A rows.length c] ∧ rows.length ≤ c ∧ c ≤ maxLen ∧ SetRow w A rows ∧ ∀ r ∈ rows, r.1.length ≤ maxLen ∧ r.2.length ≤ maxLen ∧ ∀ z ∈ r.2, -9223372036854775808 ≤ z ∧ z ≤ 9223372036854775807 := by
  rcases open_slice Try.underlying23 h with ⟨rfl, _⟩ | ⟨a, len, cap, m, n, D, Pl, rfl, hb, hl, hm, hmm, _, hi⟩
  · exact ⟨none, 0, [], rfl, Nat.le_refl _, by unfold maxLen; omega, fun k x hx => by simp at hx, fun y hy => by cases hy⟩
  · have hlm : len ≤ m := by rw [hmm]; split <;> omega
    have one : ∀ i, i < len → ∃ r : S × List Int, (∃ Ai ci, w.cell? (a.add (i * 2)) = some (.string (U r.1)) ∧ w.cell? ⟨(a.add (i * 2)).block, (a.add (i * 2)).off + 1, none⟩ = some (.slice Ai r.2.length ci) ∧ r.2.length ≤ ci ∧ IntRow w Ai r.2) ∧
        r.1.length ≤ maxLen ∧ r.2.length ≤ maxLen ∧ ∀ z ∈ r.2, -9223372036854775808 ≤ z ∧ z ≤ 9223372036854775807 := by
      intro i hil
      obtain ⟨cs', hc, ht⟩ := hi i (by omega)
      rw [cells74] at hc
      obtain ⟨xs, n', _, _, _, hx, hf⟩ := DataW.trod_struct Try.underlying74 ht
      obtain ⟨_, hcl, hat⟩ := World.cells?_some hc
      obtain ⟨c0, c1, rfl⟩ := list2 hcl
      have h0 : DataW.trod enc Try.prog w base spare held n' 9 (([c0, c1].drop 0).take (Try.prog.cellsOf 9)) = xs[0]? := hf 0 _ rfl
      have h1 : DataW.trod enc Try.prog w base spare held n' 72 (([c0, c1].drop 1).take (Try.prog.cellsOf 72)) = xs[1]? := hf 1 _ rfl
      rw [cells9] at h0
      rw [cells72] at h1
      obtain ⟨y0, e0⟩ : ∃ y, xs[0]? = some y := ⟨_, List.getElem?_eq_getElem (by rw [hx]; decide)⟩
      obtain ⟨y1, e1⟩ : ∃ y, xs[1]? = some y := ⟨_, List.getElem?_eq_getElem (by rw [hx]; decide)⟩
      rw [e0] at h0
      rw [e1] at h1
      obtain ⟨s, es, _, hs⟩ := DataW.trod_string Try.underlying9 (show DataW.trod enc Try.prog w base spare held n' 9 [c0] = some y0 from h0)
      obtain ⟨Ai, ci, zs, ez, hle, hcm, hI, hw⟩ := open_nums (show DataW.trod enc Try.prog w base spare held n' 72 [c1] = some y1 from h1)
      cases es
      cases ez
      refine ⟨(B s, zs), ⟨Ai, ci, ?_, ?_, hle, hI⟩, by rw [size_B]; exact hs, by dsimp only; omega, hw⟩
      · have := hat 0 (by omega)
        rw [U_B]
        exact this
      · exact hat 1 (by omega)
    obtain ⟨f, hf⟩ := choose_lt one
    refine ⟨some a, cap, (List.range len).map f, by simp, by simpa using hl, hm, fun k r hr => ?_, fun r hr => ?_⟩
    · rw [List.getElem?_map, Option.map_eq_some_iff] at hr
      obtain ⟨i, hi', rfl⟩ := hr
      have hk : k < len := by
        have := (List.getElem?_eq_some_iff.1 hi').1
        simpa using this
      rw [List.getElem?_range hk] at hi'
      cases hi'
      obtain ⟨⟨Ai, ci, h1, h2, h3, h4⟩, _⟩ := hf k hk
      exact ⟨a, Ai, ci, rfl, h1, h2, h3, h4⟩
    · obtain ⟨i, hi', rfl⟩ := List.mem_map.1 hr
      exact (hf i (List.mem_range.1 hi')).2

/-- A slice of edges that came in. -/
theorem open_edges {fuel : Nat} {cs : List Value} {x : DataW H × List MemPlace} (h : DataW.trod enc Try.prog w base spare held fuel 24 cs = some x) :
    ∃ A c es, cs = [.slice A es.length c] ∧ es.length ≤ c ∧ c ≤ maxLen ∧ EdgeRow w A es ∧ ∀ e ∈ es, e.1.length ≤ maxLen ∧ e.2.2.length ≤ maxLen ∧ -9223372036854775808 ≤ e.2.1 ∧ e.2.1 ≤ 9223372036854775807 := by
  rcases open_slice Try.underlying24 h with ⟨rfl, _⟩ | ⟨a, len, cap, m, n, D, Pl, rfl, hb, hl, hm, hmm, _, hi⟩
  · exact ⟨none, 0, [], rfl, Nat.le_refl _, by unfold maxLen; omega, fun k x hx => by simp at hx, fun y hy => by cases hy⟩
  · have hlm : len ≤ m := by rw [hmm]; split <;> omega
    have one : ∀ i, i < len → ∃ e : S × Int × S, (w.cell? (a.add (i * 3)) = some (.string (U e.1)) ∧ w.cell? ⟨(a.add (i * 3)).block, (a.add (i * 3)).off + 1, none⟩ = some (.int .i64 e.2.1) ∧ w.cell? ⟨(a.add (i * 3)).block, (a.add (i * 3)).off + 2, none⟩ = some (.string (U e.2.2))) ∧
        e.1.length ≤ maxLen ∧ e.2.2.length ≤ maxLen ∧ -9223372036854775808 ≤ e.2.1 ∧ e.2.1 ≤ 9223372036854775807 := by
      intro i hil
      obtain ⟨cs', hc, ht⟩ := hi i (by omega)
      rw [cells50] at hc
      obtain ⟨xs, n', _, _, _, hx, hf⟩ := DataW.trod_struct Try.underlying50 ht
      obtain ⟨_, hcl, hat⟩ := World.cells?_some hc
      obtain ⟨c0, c1, c2, rfl⟩ := list3 hcl
      have h0 : DataW.trod enc Try.prog w base spare held n' 9 (([c0, c1, c2].drop 0).take (Try.prog.cellsOf 9)) = xs[0]? := hf 0 _ rfl
      have h1 : DataW.trod enc Try.prog w base spare held n' 3 (([c0, c1, c2].drop 1).take (Try.prog.cellsOf 3)) = xs[1]? := hf 1 _ rfl
      have h2 : DataW.trod enc Try.prog w base spare held n' 9 (([c0, c1, c2].drop 2).take (Try.prog.cellsOf 9)) = xs[2]? := hf 2 _ rfl
      rw [cells9] at h0 h2
      rw [cells3] at h1
      obtain ⟨y0, e0⟩ : ∃ y, xs[0]? = some y := ⟨_, List.getElem?_eq_getElem (by rw [hx]; decide)⟩
      obtain ⟨y1, e1⟩ : ∃ y, xs[1]? = some y := ⟨_, List.getElem?_eq_getElem (by rw [hx]; decide)⟩
      obtain ⟨y2, e2⟩ : ∃ y, xs[2]? = some y := ⟨_, List.getElem?_eq_getElem (by rw [hx]; decide)⟩
      rw [e0] at h0
      rw [e1] at h1
      rw [e2] at h2
      obtain ⟨s, es, _, hs⟩ := DataW.trod_string Try.underlying9 (show DataW.trod enc Try.prog w base spare held n' 9 [c0] = some y0 from h0)
      obtain ⟨z, ez, _, hz⟩ := DataW.trod_int Try.underlying3 (show DataW.trod enc Try.prog w base spare held n' 3 [c1] = some y1 from h1)
      obtain ⟨t, et, _, ht'⟩ := DataW.trod_string Try.underlying9 (show DataW.trod enc Try.prog w base spare held n' 9 [c2] = some y2 from h2)
      cases es
      cases ez
      cases et
      refine ⟨(B s, z, B t), ⟨?_, ?_, ?_⟩, by rw [size_B]; exact hs, by rw [size_B]; exact ht', wf64 hz⟩
      · have := hat 0 (by omega)
        rw [U_B]
        exact this
      · exact hat 1 (by omega)
      · have := hat 2 (by omega)
        rw [U_B]
        exact this
    obtain ⟨f, hf⟩ := choose_lt one
    refine ⟨some a, cap, (List.range len).map f, by simp, by simpa using hl, hm, fun k r hr => ?_, fun r hr => ?_⟩
    · rw [List.getElem?_map, Option.map_eq_some_iff] at hr
      obtain ⟨i, hi', rfl⟩ := hr
      have hk : k < len := by
        have := (List.getElem?_eq_some_iff.1 hi').1
        simpa using this
      rw [List.getElem?_range hk] at hi'
      cases hi'
      obtain ⟨h1, _⟩ := hf k hk
      exact ⟨a, rfl, h1⟩
    · obtain ⟨i, hi', rfl⟩ := List.mem_map.1 hr
      exact (hf i (List.mem_range.1 hi')).2

set_option maxRecDepth 10000 in
/-- A report that came in. -/
theorem open_report {b0 : Nat} {r : Reach} {v : Value} {d : DataW H} {ps : List MemPlace} (hv : Value.okWide Try.prog w r b0 26 v) (h : DataW.Trod enc Try.prog w base spare held 26 v d ps) :
    ∃ (e : S) (As : Option Addr) (cs : Nat) (sites : List S) (Ar : Option Addr) (cr : Nat) (rows : List (S × List Int)) (Ae : Option Addr) (ce : Nat) (es : List (S × Int × S)) (Ah : Option Addr) (ch : Nat) (reach : List S) (Ai : Option Addr) (ci : Nat) (inits : List S),
      v = .agg #[.string (U e), .slice As sites.length cs, .slice Ar rows.length cr, .slice Ae es.length ce, .slice Ah reach.length ch, .slice Ai inits.length ci] ∧
      e.length ≤ maxLen ∧ (sites.length ≤ cs ∧ cs ≤ maxLen ∧ StrRow w As sites ∧ ∀ y ∈ sites, y.length ≤ maxLen) ∧
      (rows.length ≤ cr ∧ cr ≤ maxLen ∧ SetRow w Ar rows ∧ ∀ r ∈ rows, r.1.length ≤ maxLen ∧ r.2.length ≤ maxLen ∧ ∀ z ∈ r.2, -9223372036854775808 ≤ z ∧ z ≤ 9223372036854775807) ∧
      (es.length ≤ ce ∧ ce ≤ maxLen ∧ EdgeRow w Ae es ∧ ∀ e ∈ es, e.1.length ≤ maxLen ∧ e.2.2.length ≤ maxLen ∧ -9223372036854775808 ≤ e.2.1 ∧ e.2.1 ≤ 9223372036854775807) ∧
      (reach.length ≤ ch ∧ ch ≤ maxLen ∧ StrRow w Ah reach ∧ ∀ y ∈ reach, y.length ≤ maxLen) ∧
      (inits.length ≤ ci ∧ ci ≤ maxLen ∧ StrRow w Ai inits ∧ ∀ y ∈ inits, y.length ≤ maxLen) := by
  obtain ⟨cs, rfl, hsz⟩ := okWide_struct Try.underlying26 hv
  obtain ⟨fuel, hf⟩ := h
  obtain ⟨xs, n, _, _, _, hx, hg⟩ := DataW.trod_struct Try.underlying26 hf
  obtain ⟨c0, c1, c2, c3, c4, c5, rfl⟩ := array6 (hsz.trans cells26)
  have h0 : DataW.trod enc Try.prog w base spare held n 9 (([c0, c1, c2, c3, c4, c5].drop 0).take (Try.prog.cellsOf 9)) = xs[0]? := hg 0 _ rfl
  have h1 : DataW.trod enc Try.prog w base spare held n 22 (([c0, c1, c2, c3, c4, c5].drop 1).take (Try.prog.cellsOf 22)) = xs[1]? := hg 1 _ rfl
  have h2 : DataW.trod enc Try.prog w base spare held n 23 (([c0, c1, c2, c3, c4, c5].drop 2).take (Try.prog.cellsOf 23)) = xs[2]? := hg 2 _ rfl
  have h3 : DataW.trod enc Try.prog w base spare held n 24 (([c0, c1, c2, c3, c4, c5].drop 3).take (Try.prog.cellsOf 24)) = xs[3]? := hg 3 _ rfl
  have h4 : DataW.trod enc Try.prog w base spare held n 22 (([c0, c1, c2, c3, c4, c5].drop 4).take (Try.prog.cellsOf 22)) = xs[4]? := hg 4 _ rfl
  have h5 : DataW.trod enc Try.prog w base spare held n 22 (([c0, c1, c2, c3, c4, c5].drop 5).take (Try.prog.cellsOf 22)) = xs[5]? := hg 5 _ rfl
  rw [cells9] at h0
  rw [cells22] at h1 h4 h5
  rw [cells23] at h2
  rw [cells24] at h3
  rw [List.getElem?_eq_getElem (by rw [hx]; decide)] at h0 h1 h2 h3 h4 h5
  simp only [List.drop_zero, List.take_succ_cons, List.take_zero] at h0
  simp only [List.drop_succ_cons, List.drop_zero, List.take_succ_cons, List.take_zero] at h1
  simp only [List.drop_succ_cons, List.drop_zero, List.take_succ_cons, List.take_zero] at h2
  simp only [List.drop_succ_cons, List.drop_zero, List.take_succ_cons, List.take_zero] at h3
  simp only [List.drop_succ_cons, List.drop_zero, List.take_succ_cons, List.take_zero] at h4
  simp only [List.drop_succ_cons, List.drop_zero, List.take_succ_cons, List.take_zero] at h5
  obtain ⟨s, es0, _, hs⟩ := DataW.trod_string Try.underlying9 h0
  obtain ⟨As, ks, sites, es1, g1⟩ := open_strs h1
  obtain ⟨Ar, kr, rows, es2, g2⟩ := open_sets h2
  obtain ⟨Ae, ke, es, es3, g3⟩ := open_edges h3
  obtain ⟨Ah, kh, reach, es4, g4⟩ := open_strs h4
  obtain ⟨Ai, ki, inits, es5, g5⟩ := open_strs h5
  have q0 : c0 = .string s := by simpa [Value.cells] using es0
  have q1 : c1 = .slice As sites.length ks := by simpa [Value.cells] using es1
  have q2 : c2 = .slice Ar rows.length kr := by simpa [Value.cells] using es2
  have q3 : c3 = .slice Ae es.length ke := by simpa [Value.cells] using es3
  have q4 : c4 = .slice Ah reach.length kh := by simpa [Value.cells] using es4
  have q5 : c5 = .slice Ai inits.length ki := by simpa [Value.cells] using es5
  subst q0 q1 q2 q3 q4 q5
  exact ⟨B s, As, ks, sites, Ar, kr, rows, Ae, ke, es, Ah, kh, reach, Ai, ki, inits, by rw [U_B], by rw [size_B]; exact hs, g1, g2, g3, g4, g5⟩

end
end Go.Proofs.Ytljfknneijmfoaa

namespace Go.Proofs.Ytljfknneijmfoaa
open Go.RowKit Go.Maps Go.WideMaps
open Go.Proofs.YtljfknneijmfoaaW.PrintWords
open PQueryAsks (S50 z50 k50 rd_T50 k50_mk S74 z74 k74 rd_T74 k74_mk lanternalike_Sum.l0 lanternalike_Total.l0 lanternalike_Edges.l0 lanternlaw26_small.l0)

/-- An edge, as the texts printed for query have it. -/
def toQ50 (e : S × Int × S) : S50 := ⟨U e.1, e.2.1, U e.2.2⟩
def toQ74 (r : S × List Int) : S74 := ⟨U r.1, r.2⟩

theorem C_of_edgesQ {w : World} {A : Option Addr} {es : List (S × Int × S)} (h : EdgeRow w A es) (hn : es.length ≤ 9223372036854775807) : Kd.C k50 w A es.length (es.map toQ50) := by
  refine ⟨by simp, by omega, fun h0 => ?_⟩
  obtain ⟨ad, rfl, _⟩ := h 0 _ (List.getElem?_eq_getElem h0)
  refine ⟨ad, rfl, fun j p hp => ?_⟩
  rw [List.getElem?_map] at hp
  obtain ⟨e, he, rfl⟩ := Option.map_eq_some_iff.1 hp
  obtain ⟨ad', ea, c0, c1, c2⟩ := h j e he
  cases ea
  refine ⟨_, rfl, k50_mk w _, fun i u hu => ?_⟩
  show w.cell? (ad.add (j * 3 + i)) = some u
  match i, hu with
  | 0, hu => cases hu; exact c0
  | 1, hu => cases hu; rw [add_field _ _ 1 (by omega)]; exact c1
  | 2, hu => cases hu; rw [add_field _ _ 2 (by omega)]; exact c2

theorem C_of_strs {w : World} {A : Option Addr} {xs : List S} (h : StrRow w A xs) (hn : xs.length ≤ 9223372036854775807) : Kd.C Kd.string w A xs.length (xs.map U) := by
  refine ⟨by simp, by omega, fun h0 => ?_⟩
  obtain ⟨ad, rfl, _⟩ := h 0 _ (List.getElem?_eq_getElem h0)
  refine ⟨ad, rfl, fun j p hp => ?_⟩
  rw [List.getElem?_map] at hp
  obtain ⟨e, he, rfl⟩ := Option.map_eq_some_iff.1 hp
  obtain ⟨ad', ea, c0⟩ := h j e he
  cases ea
  refine ⟨_, rfl, rfl, fun i u hu => ?_⟩
  show w.cell? (ad.add (j * 1 + i)) = some u
  match i, hu with
  | 0, hu => cases hu; rw [Nat.mul_one]; exact c0

theorem C_of_ints {w : World} {A : Option Addr} {xs : List Int} (h : IntRow w A xs) (hn : xs.length ≤ 9223372036854775807) : Kd.C (Kd.int .i64) w A xs.length xs := by
  refine ⟨by simp, by omega, fun h0 => ?_⟩
  obtain ⟨ad, rfl, _⟩ := h 0 _ (List.getElem?_eq_getElem h0)
  refine ⟨ad, rfl, fun j p hp => ?_⟩
  obtain ⟨ad', ea, c0⟩ := h j p hp
  cases ea
  refine ⟨_, rfl, rfl, fun i u hu => ?_⟩
  show w.cell? (ad.add (j * 1 + i)) = some u
  match i, hu with
  | 0, hu => cases hu; rw [Nat.mul_one]; exact c0

theorem C_of_sets {w : World} {A : Option Addr} {rows : List (S × List Int)} (h : SetRow w A rows) (hn : rows.length ≤ 9223372036854775807) (hl : ∀ r ∈ rows, r.2.length ≤ 9223372036854775807) : Kd.C k74 w A rows.length (rows.map toQ74) := by
  refine ⟨by simp, by omega, fun h0 => ?_⟩
  obtain ⟨ad, _, _, rfl, _⟩ := h 0 _ (List.getElem?_eq_getElem h0)
  refine ⟨ad, rfl, fun j p hp => ?_⟩
  rw [List.getElem?_map] at hp
  obtain ⟨r, hr, rfl⟩ := Option.map_eq_some_iff.1 hp
  obtain ⟨ad', Ai, ci, ea, c0, c1, hle, hI⟩ := h j r hr
  cases ea
  refine ⟨_, rfl, k74_mk w (toQ74 r) hle (C_of_ints hI (hl r (List.mem_of_getElem? hr))), fun i u hu => ?_⟩
  show w.cell? (ad.add (j * 2 + i)) = some u
  match i, hu with
  | 0, hu => cases hu; exact c0
  | 1, hu => cases hu; rw [add_field _ _ 1 (by omega)]; exact c1

theorem sum_l0 (xs : List Int) (hx : ∀ x ∈ xs, 0 ≤ x ∧ x ≤ 9223372036854775807) (hl : xs.length ≤ 1000) : ∀ (m k i : Nat) (n : Int), xs.length - i = m → i ≤ xs.length → m < k → 0 ≤ n → n ≤ 9223372036854775807 →
    ∃ r, lanternalike_Sum.l0 k n xs (i : Int) = some r ∧ 0 ≤ r ∧ r ≤ 9223372036854775807 ∧ (r ≤ 2000 → r = n + (xs.drop i).sum) := by
  intro m
  induction m with
  | zero =>
    intro k i n hm hi hk h0 h1
    obtain ⟨k, rfl⟩ : ∃ k', k = k' + 1 := ⟨k - 1, by omega⟩
    have : i = xs.length := by omega
    subst this
    refine ⟨n, ?_, h0, h1, fun _ => by simp⟩
    unfold lanternalike_Sum.l0
    rw [if_neg (by omega)]
  | succ m ih =>
    intro k i n hm hi hk h0 h1
    obtain ⟨k, rfl⟩ : ∃ k', k = k' + 1 := ⟨k - 1, by omega⟩
    have hlt : i < xs.length := by omega
    have hrd : Go.Proofs.YtljfknneijmfoaaW.PrintWords.rd xs (i : Int) = xs[i] := by simp [Go.Proofs.YtljfknneijmfoaaW.PrintWords.rd, List.getD_eq_getElem?_getD, List.getElem?_eq_getElem hlt]
    obtain ⟨hx0, hx1⟩ := hx xs[i] (List.getElem_mem hlt)
    unfold lanternalike_Sum.l0
    rw [if_pos (by omega), hrd]
    by_cases c : n > 1099511627776
    · exact ⟨1099511627776, by rw [if_pos c], by omega, by omega, by omega⟩
    · rw [if_neg c, if_pos (by omega)]
      rw [show wrap64 (1099511627776 - n) = 1099511627776 - n by unfold wrap64; omega]
      by_cases c2 : xs[i] > 1099511627776 - n
      · exact ⟨1099511627776, by rw [if_pos c2], by omega, by omega, by omega⟩
      · rw [if_neg c2]
        rw [show wrap64 (n + xs[i]) = n + xs[i] by unfold wrap64; omega, show wrap64 ((i : Int) + 1) = ((i + 1 : Nat) : Int) by unfold wrap64; omega]
        obtain ⟨r, hr, r0, r1, r2⟩ := ih k (i + 1) (n + xs[i]) (by omega) (by omega) (by omega) (by omega) (by omega)
        refine ⟨r, hr, r0, r1, fun h => ?_⟩
        rw [List.drop_eq_getElem_cons hlt, List.sum_cons, r2 h]
        omega

theorem sum_any (k : Nat) (xs : List Int) (hx : ∀ x ∈ xs, 0 ≤ x ∧ x ≤ 9223372036854775807) (hl : xs.length ≤ 1000) (n : Int) (hk : xs.length < k) (h0 : 0 ≤ n) (h1 : n ≤ 9223372036854775807) :
    ∃ r, PQueryAsks.lanternalike_Sum.f k n xs = some r ∧ 0 ≤ r ∧ r ≤ 9223372036854775807 ∧ (r ≤ 2000 → r = n + xs.sum) := by
  unfold PQueryAsks.lanternalike_Sum.f
  exact sum_l0 xs hx hl xs.length k 0 n (by omega) (by omega) hk h0 h1

/-- The bytes of texts, and one for each. -/
def sizes (l : List S) : Int := (l.map fun s => (s.length : Int) + 1).sum
def sizesE (l : List (S × Int × S)) : Int := (l.map fun e => (e.1.length : Int) + e.2.2.length + 1).sum
def sizesR (l : List (S × List Int)) : Int := (l.map fun r => (r.1.length : Int) + r.2.length + 1).sum

theorem total_l0 (l : List S) (hl : l.length ≤ 9223372036854775807) (hs : ∀ s ∈ l, s.length ≤ 9223372036854775807) : ∀ (m k i : Nat) (n : Int), l.length - i = m → i ≤ l.length → m + 4 < k → 0 ≤ n → n ≤ 9223372036854775807 →
    ∃ r, lanternalike_Total.l0 k (l.map U) 2000 n (i : Int) = some r ∧ 0 ≤ r ∧ r ≤ 9223372036854775807 ∧ (r ≤ 2000 → r = n + sizes (l.drop i)) := by
  intro m
  induction m with
  | zero =>
    intro k i n hm hi hk h0 h1
    obtain ⟨k, rfl⟩ : ∃ k', k = k' + 1 := ⟨k - 1, by omega⟩
    have : i = l.length := by omega
    subst this
    refine ⟨n, ?_, h0, h1, fun _ => by simp [sizes]⟩
    unfold lanternalike_Total.l0
    rw [if_neg (by simp)]
  | succ m ih =>
    intro k i n hm hi hk h0 h1
    obtain ⟨k, rfl⟩ : ∃ k', k = k' + 1 := ⟨k - 1, by omega⟩
    have hlt : i < l.length := by omega
    have hrd : rdOf ByteArray.empty (l.map U) (i : Int) = U l[i] := by simp [rdOf, List.getD_eq_getElem?_getD, List.getElem?_eq_getElem hlt]
    have hsz := hs l[i] (List.getElem_mem hlt)
    unfold lanternalike_Total.l0
    rw [if_pos (by simp; omega)]
    by_cases c : n ≤ 2000
    · rw [if_pos c, if_pos (by omega), hrd, size_U]
      obtain ⟨t, ht, t0, t1, t2⟩ := sum_any k [(l[i].length : Int), 1] (by simp; omega) (by simp) n (by simp; omega) h0 h1
      rw [ht, Option.bind_some]
      rw [show wrap64 ((i : Int) + 1) = ((i + 1 : Nat) : Int) by unfold wrap64; omega]
      obtain ⟨r, hr, r0, r1, r2⟩ := ih k (i + 1) t (by omega) (by omega) (by omega) t0 t1
      refine ⟨r, hr, r0, r1, fun h => ?_⟩
      have h2 := r2 h
      have hnn : 0 ≤ sizes (l.drop (i + 1)) := by
        unfold sizes
        generalize l.drop (i + 1) = q
        induction q with
        | nil => simp
        | cons a q ih => simp; omega
      have h3 := t2 (by omega)
      simp at h3
      rw [List.drop_eq_getElem_cons hlt]
      unfold sizes at h2 ⊢
      rw [List.map_cons, List.sum_cons]
      omega
    · rw [if_neg c]
      exact ⟨n, rfl, h0, h1, fun h => absurd h c⟩

theorem edges_l0 (l : List (S × Int × S)) (hl : l.length ≤ 9223372036854775807) (hs : ∀ e ∈ l, e.1.length ≤ 9223372036854775807 ∧ e.2.2.length ≤ 9223372036854775807) : ∀ (m k i : Nat) (n : Int), l.length - i = m → i ≤ l.length → m + 5 < k → 0 ≤ n → n ≤ 9223372036854775807 →
    ∃ r, lanternalike_Edges.l0 k (l.map toQ50) 2000 n (i : Int) = some r ∧ 0 ≤ r ∧ r ≤ 9223372036854775807 ∧ (r ≤ 2000 → r = n + sizesE (l.drop i)) := by
  intro m
  induction m with
  | zero =>
    intro k i n hm hi hk h0 h1
    obtain ⟨k, rfl⟩ : ∃ k', k = k' + 1 := ⟨k - 1, by omega⟩
    have : i = l.length := by omega
    subst this
    refine ⟨n, ?_, h0, h1, fun _ => by simp [sizesE]⟩
    unfold lanternalike_Edges.l0
    rw [if_neg (by simp)]
  | succ m ih =>
    intro k i n hm hi hk h0 h1
    obtain ⟨k, rfl⟩ : ∃ k', k = k' + 1 := ⟨k - 1, by omega⟩
    have hlt : i < l.length := by omega
    have hrd : rd_T50 (l.map toQ50) (i : Int) = toQ50 l[i] := by simp [rd_T50, List.getD_eq_getElem?_getD, List.getElem?_eq_getElem hlt]
    have hsz := hs l[i] (List.getElem_mem hlt)
    have hf0 : ((toQ50 l[i]).f0.size : Int) = (l[i].1.length : Int) := by simp [toQ50, size_U]
    have hf2 : ((toQ50 l[i]).f2.size : Int) = (l[i].2.2.length : Int) := by simp [toQ50, size_U]
    unfold lanternalike_Edges.l0
    rw [if_pos (by simp; omega)]
    by_cases c : n ≤ 2000
    · rw [if_pos c, if_pos (by omega), hrd, hf0, hf2]
      obtain ⟨t, ht, t0, t1, t2⟩ := sum_any k [(l[i].1.length : Int), (l[i].2.2.length : Int), 1] (by simp; omega) (by simp) n (by simp; omega) h0 h1
      rw [ht, Option.bind_some]
      rw [show wrap64 ((i : Int) + 1) = ((i + 1 : Nat) : Int) by unfold wrap64; omega]
      obtain ⟨r, hr, r0, r1, r2⟩ := ih k (i + 1) t (by omega) (by omega) (by omega) t0 t1
      refine ⟨r, hr, r0, r1, fun h => ?_⟩
      have h2 := r2 h
      have hnn : 0 ≤ sizesE (l.drop (i + 1)) := by
        unfold sizesE
        generalize l.drop (i + 1) = q
        induction q with
        | nil => simp
        | cons a q ih => simp; omega
      have h3 := t2 (by omega)
      simp at h3
      rw [List.drop_eq_getElem_cons hlt]
      unfold sizesE at h2 ⊢
      rw [List.map_cons, List.sum_cons]
      omega
    · rw [if_neg c]
      exact ⟨n, rfl, h0, h1, fun h => absurd h c⟩

theorem small_l0 (a0 : ByteArray) (q1 : List ByteArray) (q3 : List S50) (q4 q5 : List ByteArray) (l : List (S × List Int)) (hl : l.length ≤ 9223372036854775807) (hs : ∀ r ∈ l, r.1.length ≤ 9223372036854775807 ∧ r.2.length ≤ 9223372036854775807) :
    ∀ (m k i : Nat) (n : Int), l.length - i = m → i ≤ l.length → m + 5 < k → 0 ≤ n → n ≤ 9223372036854775807 →
    ∃ b, lanternlaw26_small.l0 k n (i : Int) a0 q1 (l.map toQ74) q3 q4 q5 = some b ∧ (b = true → n + sizesR (l.drop i) ≤ 2000) := by
  intro m
  induction m with
  | zero =>
    intro k i n hm hi hk h0 h1
    obtain ⟨k, rfl⟩ : ∃ k', k = k' + 1 := ⟨k - 1, by omega⟩
    have : i = l.length := by omega
    subst this
    refine ⟨decide (n ≤ 2000), ?_, fun h => by simpa [sizesR] using h⟩
    unfold lanternlaw26_small.l0
    rw [if_neg (by simp)]
  | succ m ih =>
    intro k i n hm hi hk h0 h1
    obtain ⟨k, rfl⟩ : ∃ k', k = k' + 1 := ⟨k - 1, by omega⟩
    have hlt : i < l.length := by omega
    have hrd : rd_T74 (l.map toQ74) (i : Int) = toQ74 l[i] := by simp [rd_T74, List.getD_eq_getElem?_getD, List.getElem?_eq_getElem hlt]
    have hsz := hs l[i] (List.getElem_mem hlt)
    have hf0 : ((toQ74 l[i]).f0.size : Int) = (l[i].1.length : Int) := by simp [toQ74, size_U]
    have hf1 : ((toQ74 l[i]).f1.length : Int) = (l[i].2.length : Int) := by simp [toQ74]
    unfold lanternlaw26_small.l0
    rw [if_pos (by simp; omega)]
    by_cases c : n ≤ 2000
    · rw [if_pos c, if_pos (by omega), hrd, hf0, hf1]
      obtain ⟨t, ht, t0, t1, t2⟩ := sum_any k [(l[i].1.length : Int), (l[i].2.length : Int), 1] (by simp; omega) (by simp) n (by simp; omega) h0 h1
      rw [ht, Option.bind_some]
      rw [show wrap64 ((i : Int) + 1) = ((i + 1 : Nat) : Int) by unfold wrap64; omega]
      obtain ⟨b, hb, r2⟩ := ih k (i + 1) t (by omega) (by omega) (by omega) t0 t1
      refine ⟨b, hb, fun h => ?_⟩
      have h2 := r2 h
      have hnn : 0 ≤ sizesR (l.drop (i + 1)) := by
        unfold sizesR
        generalize l.drop (i + 1) = q
        induction q with
        | nil => simp
        | cons a q ih => simp; omega
      have h3 := t2 (by omega)
      simp at h3
      rw [List.drop_eq_getElem_cons hlt]
      unfold sizesR at h2 ⊢
      rw [List.map_cons, List.sum_cons]
      omega
    · rw [if_neg c]
      exact ⟨_, rfl, fun h => by simp at h; omega⟩

/-- A report that is looked at. -/
structure Small (e : S) (sites : List S) (rows : List (S × List Int)) (es : List (S × Int × S)) (reach inits : List S) : Prop where
  entry : e.length ≤ 2000
  sites : sizes sites ≤ 2000
  rows : sizesR rows ≤ 2000
  edges : sizesE es ≤ 2000

theorem sizes_nonneg (l : List S) : 0 ≤ sizes l := by
  unfold sizes
  induction l with
  | nil => simp
  | cons a q ih => simp; omega
theorem sizesE_nonneg (l : List (S × Int × S)) : 0 ≤ sizesE l := by
  unfold sizesE
  induction l with
  | nil => simp
  | cons a q ih => simp; omega
theorem sizesR_nonneg (l : List (S × List Int)) : 0 ≤ sizesR l := by
  unfold sizesR
  induction l with
  | nil => simp
  | cons a q ih => simp; omega

theorem small12 (e : S) (As : Option Addr) (sites : List S) (cs : Nat) (Ar : Option Addr) (rows : List (S × List Int)) (cr : Nat) (Ae : Option Addr) (es : List (S × Int × S)) (ce : Nat) (Ah : Option Addr) (reach : List S) (ch : Nat) (Ai : Option Addr) (inits : List S) (ci : Nat) (w : World)
    (he : e.length ≤ maxLen) (h1 : sites.length ≤ cs ∧ cs ≤ maxLen ∧ StrRow w As sites ∧ ∀ y ∈ sites, y.length ≤ maxLen)
    (h2 : rows.length ≤ cr ∧ cr ≤ maxLen ∧ SetRow w Ar rows ∧ ∀ r ∈ rows, r.1.length ≤ maxLen ∧ r.2.length ≤ maxLen ∧ ∀ z ∈ r.2, -9223372036854775808 ≤ z ∧ z ≤ 9223372036854775807)
    (h3 : es.length ≤ ce ∧ ce ≤ maxLen ∧ EdgeRow w Ae es ∧ ∀ e ∈ es, e.1.length ≤ maxLen ∧ e.2.2.length ≤ maxLen ∧ -9223372036854775808 ≤ e.2.1 ∧ e.2.1 ≤ 9223372036854775807)
    (h4 : reach.length ≤ ch ∧ ch ≤ maxLen ∧ StrRow w Ah reach ∧ ∀ y ∈ reach, y.length ≤ maxLen)
    (h5 : inits.length ≤ ci ∧ ci ≤ maxLen ∧ StrRow w Ai inits ∧ ∀ y ∈ inits, y.length ≤ maxLen) :
    Calls Try.prog 12 #[.agg (repV e As sites.length cs Ar rows.length cr (.slice Ae es.length ce) (.slice Ah reach.length ch) (.slice Ai inits.length ci))] w fun ee w' => ∃ b, ee = .returned (.bool b) ∧ (b = true → Small e sites rows es reach inits) ∧ Below w.heap.size w w' := by
  unfold maxLen at *
  obtain ⟨h11, h12, h13, h14⟩ := h1
  obtain ⟨h21, h22, h23, h24⟩ := h2
  obtain ⟨h31, h32, h33, h34⟩ := h3
  obtain ⟨h41, h42, h43, h44⟩ := h4
  obtain ⟨h51, h52, h53, h54⟩ := h5
  obtain ⟨K, hK⟩ : ∃ K, K = sites.length + es.length + reach.length + inits.length + rows.length + 20 := ⟨_, rfl⟩
  obtain ⟨t1, e1, a1, b1, c1⟩ := total_l0 sites (by omega) h14 sites.length K 0 0 (by omega) (by omega) (by omega) (by omega) (by omega)
  obtain ⟨t2, e2, a2, b2, c2⟩ := edges_l0 es (by omega) (fun e he => ⟨(h34 e he).1, (h34 e he).2.1⟩) es.length K 0 0 (by omega) (by omega) (by omega) (by omega) (by omega)
  obtain ⟨t3, e3, a3, b3, c3⟩ := total_l0 reach (by omega) h44 reach.length K 0 0 (by omega) (by omega) (by omega) (by omega) (by omega)
  obtain ⟨t4, e4, a4, b4, c4⟩ := total_l0 inits (by omega) h54 inits.length K 0 0 (by omega) (by omega) (by omega) (by omega) (by omega)
  obtain ⟨t5, e5, a5, b5, c5⟩ := sum_any K [t1, t2, t3, t4] (by simp; omega) (by simp) (e.length : Int) (by simp; omega) (by omega) (by omega)
  obtain ⟨b, eb, cb⟩ := small_l0 (U e) (sites.map U) (es.map toQ50) (reach.map U) (inits.map U) rows (by omega) (fun r hr => ⟨(h24 r hr).1, (h24 r hr).2.1⟩) rows.length K 0 t5 (by omega) (by omega) (by omega) a5 b5
  have hf : PQueryAsks.lanternlaw26_small.f K (U e) (sites.map U) (rows.map toQ74) (es.map toQ50) (reach.map U) (inits.map U) = some b := by
    unfold PQueryAsks.lanternlaw26_small.f PQueryAsks.lanternalike_Total.f PQueryAsks.lanternalike_Edges.f
    rw [show ((0 : Nat) : Int) = 0 from rfl] at e1 e2 e3 e4 eb
    rw [e1, Option.bind_some, e2, Option.bind_some, e3, Option.bind_some, e4, Option.bind_some, size_U, e5, Option.bind_some, eb]
  have hr0_1 := C_of_strs h13 (by omega)
  have hr0_2 := C_of_sets h23 (by omega) (fun r hr => (h24 r hr).2.1)
  have hr0_3 := C_of_edgesQ h33 (by omega)
  have hr0_4 := C_of_strs h43 (by omega)
  have hr0_5 := C_of_strs h53 (by omega)
  have := PQueryAsks.lanternlaw26_small.calls K (U e) As cs (sites.map U) Ar cr (rows.map toQ74) Ae ce (es.map toQ50) Ah ch (reach.map U) Ai ci (inits.map U) b w (by simpa using hr0_1) (by simpa using h11) (by simpa using hr0_2) (by simpa using h21) (by simpa using hr0_3) (by simpa using h31) (by simpa using hr0_4) (by simpa using h41) (by simpa using hr0_5) (by simpa using h51) hf
  simp only [List.length_map] at this
  refine this.mono ?_
  rintro ee w' ⟨rfl, hB⟩
  refine ⟨b, rfl, fun hb => ?_, hB⟩
  have hrow := cb hb
  rw [List.drop_zero] at hrow c1 c2 c3 c4
  have p1 := sizes_nonneg sites
  have p2 := sizesE_nonneg es
  have p3 := sizesR_nonneg rows
  have s5 := c5 (by omega)
  simp at s5
  exact ⟨by omega, by have := c1 (by omega); omega, by omega, by have := c2 (by omega); omega⟩

end Go.Proofs.Ytljfknneijmfoaa

namespace Go.Proofs.Ytljfknneijmfoaa
open Go.RowKit Go.Maps Go.WideMaps
open Go.Proofs.YtljfknneijmfoaaW.PrintWords

theorem in_l0 (l : List S) (x : S) (hl : l.length ≤ 9223372036854775807) : ∀ (m k i : Nat), l.length - i = m → i ≤ l.length → m < k →
    ∃ r, PQueryAsks.lanternref1_in.l0 k (l.map U) (U x) (i : Int) = some r ∧ (0 ≤ r ↔ x ∈ l.drop i) := by
  intro m
  induction m with
  | zero =>
    intro k i hm hi hk
    obtain ⟨k, rfl⟩ : ∃ k', k = k' + 1 := ⟨k - 1, by omega⟩
    have : i = l.length := by omega
    subst this
    refine ⟨-1, ?_, by simp⟩
    unfold PQueryAsks.lanternref1_in.l0
    rw [if_neg (by simp)]
  | succ m ih =>
    intro k i hm hi hk
    obtain ⟨k, rfl⟩ : ∃ k', k = k' + 1 := ⟨k - 1, by omega⟩
    have hlt : i < l.length := by omega
    have hrd : rdOf ByteArray.empty (l.map U) (i : Int) = U l[i] := by simp [rdOf, List.getD_eq_getElem?_getD, List.getElem?_eq_getElem hlt]
    unfold PQueryAsks.lanternref1_in.l0
    rw [if_pos (by simp; omega), if_pos (by omega), hrd, toList_U, toList_U]
    rw [List.drop_eq_getElem_cons hlt]
    by_cases c : l[i] = x
    · refine ⟨(i : Int), by rw [if_pos c], ?_⟩
      rw [c]
      simp
    · rw [if_neg c, show wrap64 ((i : Int) + 1) = ((i + 1 : Nat) : Int) by unfold wrap64; omega]
      obtain ⟨r, hr, h⟩ := ih k (i + 1) (by omega) (by omega) (by omega)
      refine ⟨r, hr, h.trans ?_⟩
      rw [List.mem_cons]
      exact ⟨fun h => .inr h, fun h => h.resolve_left (fun e => c e.symm)⟩

/-- lanternref1.Has of a row of strings. -/
theorem has19 {A : Option Addr} {c : Nat} {l : List S} {w : World} (h : StrRow w A l) (hc : l.length ≤ c) (hl : l.length ≤ 1000000) (x : S) :
    Calls Try.prog 19 #[.slice A l.length c, .string (U x)] w fun e w' => e = .returned (.bool (l.contains x)) ∧ Below w.heap.size w w' := by
  obtain ⟨r, hr, hx⟩ := in_l0 l x (by omega) l.length (l.length + 1) 0 (by omega) (by omega) (by omega)
  rw [List.drop_zero] at hx
  have hf : PQueryAsks.lanternref1_Has.f (l.length + 1) (l.map U) (U x) = some (l.contains x) := by
    unfold PQueryAsks.lanternref1_Has.f PQueryAsks.lanternref1_in.f
    rw [show ((0 : Nat) : Int) = 0 from rfl] at hr
    rw [hr, Option.bind_some]
    congr 1
    rw [Bool.eq_iff_iff, decide_eq_true_eq, List.contains_iff_mem, ← hx]
  have hC := C_of_strs h (by omega)
  have := PQueryAsks.lanternref1_Has.calls (l.length + 1) A c (l.map U) (U x) _ w (by simpa using hC) (by simpa using hc) hf
  simp only [List.length_map] at this
  exact this.mono fun _ _ ⟨h1, h2⟩ => ⟨h1, h2.below⟩

/-- lanternalike.Sum of a row. -/
theorem sum13 {A : Option Addr} {c : Nat} {n : Int} {xs : List Int} {w : World} (h : IntRow w A xs) (hc : xs.length ≤ c) (hl : xs.length ≤ 1000) (hx : ∀ x ∈ xs, 0 ≤ x ∧ x ≤ 9223372036854775807) (h0 : 0 ≤ n) (h1 : n ≤ 9223372036854775807) :
    Calls Try.prog 13 #[.int .i64 n, .slice A xs.length c] w fun e w' => ∃ r, e = .returned (.int .i64 r) ∧ 0 ≤ r ∧ r ≤ 9223372036854775807 ∧ (r ≤ 2000 → r = n + xs.sum) ∧ Below w.heap.size w w' := by
  obtain ⟨r, hr, r0, r1, r2⟩ := sum_any (xs.length + 1) xs hx hl n (by omega) h0 h1
  exact (PQueryAsks.lanternalike_Sum.calls (xs.length + 1) n A c xs r w (C_of_ints h (by omega)) hc hr).mono fun _ _ ⟨h1, h2⟩ => ⟨r, h1, r0, r1, r2, h2.below⟩

theorem sizes_length {l : List S} (h : sizes l ≤ 2000) : l.length ≤ 2000 ∧ ∀ s ∈ l, s.length ≤ 2000 := by
  suffices hh : (l.length : Int) ≤ sizes l ∧ ∀ s ∈ l, (s.length : Int) ≤ sizes l by
    exact ⟨by omega, fun s hs => by have := hh.2 s hs; omega⟩
  clear h
  unfold sizes
  induction l with
  | nil => simp
  | cons a q ih =>
    obtain ⟨i1, i2⟩ := ih
    refine ⟨by simp only [List.length_cons, List.map_cons, List.sum_cons]; omega, fun s hs => ?_⟩
    simp only [List.map_cons, List.sum_cons]
    rcases List.mem_cons.1 hs with rfl | hs
    · have : 0 ≤ (q.map fun s => (s.length : Int) + 1).sum := sizes_nonneg q
      omega
    · have := i2 s hs
      omega

theorem sizesE_length {l : List (S × Int × S)} (h : sizesE l ≤ 2000) : l.length ≤ 2000 ∧ ∀ e ∈ l, e.1.length ≤ 2000 ∧ e.2.2.length ≤ 2000 := by
  suffices hh : (l.length : Int) ≤ sizesE l ∧ ∀ e ∈ l, (e.1.length : Int) ≤ sizesE l ∧ (e.2.2.length : Int) ≤ sizesE l by
    exact ⟨by omega, fun s hs => by have := hh.2 s hs; omega⟩
  clear h
  unfold sizesE
  induction l with
  | nil => simp
  | cons a q ih =>
    obtain ⟨i1, i2⟩ := ih
    have : 0 ≤ (q.map fun e => (e.1.length : Int) + e.2.2.length + 1).sum := sizesE_nonneg q
    refine ⟨by simp only [List.length_cons, List.map_cons, List.sum_cons]; omega, fun s hs => ?_⟩
    simp only [List.map_cons, List.sum_cons]
    rcases List.mem_cons.1 hs with rfl | hs
    · omega
    · have := i2 s hs
      omega

theorem sizesR_length {l : List (S × List Int)} (h : sizesR l ≤ 2000) : l.length ≤ 2000 ∧ (∀ r ∈ l, r.1.length ≤ 2000 ∧ r.2.length ≤ 2000) ∧ ∀ ns v j, (picks ns v (l.take j)).length ≤ 2000 := by
  suffices hh : (l.length : Int) ≤ sizesR l ∧ (∀ e ∈ l, (e.1.length : Int) ≤ sizesR l ∧ (e.2.length : Int) ≤ sizesR l) ∧ ∀ ns v j, ((picks ns v (l.take j)).length : Int) ≤ sizesR l by
    exact ⟨by omega, fun s hs => by have := hh.2.1 s hs; omega, fun ns v j => by have := hh.2.2 ns v j; omega⟩
  clear h
  unfold sizesR
  induction l with
  | nil => simp [picks]
  | cons a q ih =>
    obtain ⟨i1, i2, i3⟩ := ih
    have : 0 ≤ (q.map fun e => (e.1.length : Int) + e.2.length + 1).sum := sizesR_nonneg q
    refine ⟨by simp only [List.length_cons, List.map_cons, List.sum_cons]; omega, fun s hs => ?_, fun ns v j => ?_⟩
    · simp only [List.map_cons, List.sum_cons]
      rcases List.mem_cons.1 hs with rfl | hs
      · omega
      · have := i2 s hs
        omega
    · simp only [List.map_cons, List.sum_cons]
      cases j with
      | zero => simp [picks]; omega
      | succ j =>
        have h3 := i3 ns v j
        have h4 : (picks ns v ((a :: q).take (j + 1))).length = (if a.1 = v then a.2.filter (isSite ns) else []).length + (picks ns v (q.take j)).length := by
          simp [picks]
        have h5 : (if a.1 = v then a.2.filter (isSite ns) else []).length ≤ a.2.length := by
          split
          · exact List.length_filter_le _ _
          · simp
        omega

/-- Have two variables one number? -/
def aliasB (ns : Nat) (rows : List (S × List Int)) (a b : S) : Bool := (picks ns a rows).any fun z => (picks ns b rows).contains z

theorem aliasB_iff {ns : Nat} {rows : List (S × List Int)} {a b : S} : aliasB ns rows a b = true ↔ ∃ z, z ∈ picks ns a rows ∧ z ∈ picks ns b rows := by
  unfold aliasB
  rw [List.any_eq_true]
  exact ⟨fun ⟨z, h, h'⟩ => ⟨z, h, List.contains_iff_mem.1 h'⟩, fun ⟨z, h, h'⟩ => ⟨z, h, List.contains_iff_mem.2 h'⟩⟩

theorem aliasB_symm (ns : Nat) (rows : List (S × List Int)) (a b : S) : aliasB ns rows a b = aliasB ns rows b a := by
  rw [Bool.eq_iff_iff, aliasB_iff, aliasB_iff]
  exact ⟨fun ⟨z, h, h'⟩ => ⟨z, h', h⟩, fun ⟨z, h, h'⟩ => ⟨z, h', h⟩⟩

theorem aliasB_self {ns : Nat} {rows : List (S × List Int)} {a : S} : aliasB ns rows a a = true ↔ picks ns a rows ≠ [] := by
  rw [aliasB_iff]
  constructor
  · rintro ⟨z, h, _⟩ e
    rw [e] at h
    cases h
  · intro h
    obtain ⟨z, hz⟩ := List.exists_mem_of_ne_nil _ h
    exact ⟨z, hz, hz⟩

/-- Who holds a site: each once that does. -/
theorem mem_whoOf {sites : List S} {rows : List (S × List Int)} {site v : S} {l : List (S × List Int)} : v ∈ whoOf sites rows site l ↔ (∃ r ∈ l, r.1 = v) ∧ holdsSite sites rows site v = true := by
  unfold whoOf
  suffices h : ∀ acc : List S, v ∈ l.foldl (fun acc r => if holdsSite sites rows site r.1 && ! acc.contains r.1 then acc ++ [r.1] else acc) acc ↔ v ∈ acc ∨ ((∃ r ∈ l, r.1 = v) ∧ holdsSite sites rows site v = true) by
    rw [h]; simp
  induction l with
  | nil => intro acc; simp
  | cons r l ih =>
    intro acc
    rw [List.foldl_cons, ih]
    constructor
    · rintro (h | ⟨⟨q, hq, e⟩, h⟩)
      · split at h
        · rename_i hc
          rw [Bool.and_eq_true] at hc
          rcases List.mem_append.1 h with h | h
          · exact .inl h
          · rw [List.mem_singleton] at h
            subst h
            exact .inr ⟨⟨r, by simp, rfl⟩, hc.1⟩
        · exact .inl h
      · exact .inr ⟨⟨q, List.mem_cons_of_mem _ hq, e⟩, h⟩
    · rintro (h | ⟨⟨q, hq, e⟩, h⟩)
      · left
        split
        · exact List.mem_append_left _ h
        · exact h
      · rcases List.mem_cons.1 hq with rfl | hq
        · left
          subst e
          by_cases hc : acc.contains q.1 = true
          · rw [hc, h]
            simpa using hc
          · have hc : acc.contains q.1 = false := by simpa using hc
            rw [hc, h]
            simp
        · exact .inr ⟨⟨q, hq, e⟩, h⟩

theorem holds_row {sites : List S} {rows : List (S × List Int)} {site v : S} (h : holdsSite sites rows site v = true) : ∃ r ∈ rows, r.1 = v := by
  unfold holdsSite at h
  rw [List.any_eq_true] at h
  obtain ⟨z, hz, _⟩ := h
  obtain ⟨⟨r, hr, e, _⟩, _⟩ := mem_picks.1 hz
  exact ⟨r, hr, e⟩

theorem contains_who {sites : List S} {rows : List (S × List Int)} {site a : S} (h : holdsSite sites rows site a = true) : (whoOf sites rows site rows).contains a = true := by
  rw [List.contains_iff_mem, mem_whoOf]
  exact ⟨holds_row h, h⟩

/-- A report that lies in a block, and what it leads to. -/
theorem keep6 {w1 w' : World} {b : Nat} {c0 c1 c2 c3 c4 c5 : Value} {t : TypeId} (hb : w1.heap[b]? = some (.cells #[c0, c1, c2, c3, c4, c5] t)) (h : Below w1.heap.size w1 w') :
    Below w1.heap.size w1 w' ∧ w'.cell? ⟨b, 0, none⟩ = some c0 ∧ w'.cell? ⟨b, 1, none⟩ = some c1 ∧ w'.cell? ⟨b, 2, none⟩ = some c2 ∧ w'.cell? ⟨b, 3, none⟩ = some c3 ∧ w'.cell? ⟨b, 4, none⟩ = some c4 ∧ w'.cell? ⟨b, 5, none⟩ = some c5 := by
  have hlt : b < w1.heap.size := (Array.getElem?_eq_some_iff.1 hb).1
  have hc := (h.block b hlt).trans hb
  exact ⟨h, cell_of_block (j := 0) hc rfl, cell_of_block (j := 1) hc rfl, cell_of_block (j := 2) hc rfl, cell_of_block (j := 3) hc rfl, cell_of_block (j := 4) hc rfl, cell_of_block (j := 5) hc rfl⟩

section
variable (e : S) (As : Option Addr) (cs : Nat) (Ar : Option Addr) (cr : Nat) (x3 x4 x5 : Value) (rows : List (S × List Int)) (sites : List S) (w : World)
variable (hS : StrRow w As sites) (hR : SetRow w Ar rows) (hsz : sizesR rows ≤ 2000)
include hS hR hsz

omit hS in
/-- Alias, over all that came behind. -/
theorem aliasW (a b : S) (t : Bool) (ht : aliasB sites.length rows a b = t) (W : World) (hB : Below w.heap.size w W) :
    Calls Try.prog 16 #[.agg (repV e As sites.length cs Ar rows.length cr x3 x4 x5), .string (U a), .string (U b)] W fun e w' => e = .returned (.bool t) ∧ Below w.heap.size w w' := by
  obtain ⟨h1, h2, h3⟩ := sizesR_length hsz
  refine (alias16 e As sites.length cs Ar cr x3 x4 x5 rows a b W (hR.below hB (Nat.le_refl _)) (by omega) (fun j => by have := h3 sites.length a j; omega) (fun j => by have := h3 sites.length b j; omega) (fun r hr => by have := h2 r hr; omega)).mono ?_
  rintro ee w' ⟨t', rfl, ht', hB'⟩
  refine ⟨?_, hB.trans (hB'.mono hB.size)⟩
  have : t' = t := by rw [← ht, Bool.eq_iff_iff, ht', aliasB_iff]
  rw [this]

/-- Points, over all that came behind. -/
theorem pointsW (v : S) (W : World) (hB : Below w.heap.size w W) :
    Calls Try.prog 17 #[.agg (repV e As sites.length cs Ar rows.length cr x3 x4 x5), .string (U v)] W fun e w' => ∃ A c zs, e = .returned (.slice A (zs.map (siteAt sites)).length c) ∧ (zs.map (siteAt sites)).length ≤ c ∧ StrRow w' A (zs.map (siteAt sites)) ∧
      IsNums sites.length v rows zs ∧ Below w.heap.size w w' := by
  obtain ⟨h1, h2, h3⟩ := sizesR_length hsz
  refine (points17 e As cs Ar cr x3 x4 x5 rows sites v W (hS.below hB (Nat.le_refl _)) (hR.below hB (Nat.le_refl _)) (by omega) (fun j => by have := h3 sites.length v j; omega) (fun r hr => by have := h2 r hr; omega)).mono ?_
  rintro ee w' ⟨v', zs, rfl, hz, ho, hB'⟩
  obtain ⟨A, c, rfl, hle⟩ := q_slice (q_of_own ho)
  exact ⟨A, c, zs, rfl, hle, row_q (q_of_own ho), hz, hB.trans (hB'.mono hB.size)⟩

/-- Who, over all that came behind. -/
theorem whoW (site : S) (W : World) (hB : Below w.heap.size w W) :
    Calls Try.prog 18 #[.agg (repV e As sites.length cs Ar rows.length cr x3 x4 x5), .string (U site)] W fun e w' => ∃ A c, e = .returned (.slice A (whoOf sites rows site rows).length c) ∧ (whoOf sites rows site rows).length ≤ c ∧ StrRow w' A (whoOf sites rows site rows) ∧
      Below w.heap.size w w' := by
  obtain ⟨h1, h2, h3⟩ := sizesR_length hsz
  refine (who18 e As cs Ar cr x3 x4 x5 rows sites site W (hS.below hB (Nat.le_refl _)) (hR.below hB (Nat.le_refl _)) (by omega) (fun v j => by have := h3 sites.length v j; omega) (fun r hr => by have := h2 r hr; omega)).mono ?_
  rintro ee w' ⟨v', rfl, ho, hB'⟩
  obtain ⟨A, c, rfl, hle⟩ := q_slice (q_of_own ho)
  exact ⟨A, c, rfl, hle, row_q (q_of_own ho), hB.trans (hB'.mono hB.size)⟩
end

theorem nodup_le {α : Type} [BEq α] [LawfulBEq α] : ∀ (a b : List α), a.Nodup → (∀ x ∈ a, x ∈ b) → a.length ≤ b.length := by
  intro a
  induction a with
  | nil => intro b _ _; simp
  | cons x a ih =>
    intro b hn hb
    rw [List.nodup_cons] at hn
    have hx := hb x (by simp)
    have := ih (b.erase x) hn.2 (fun y hy => (List.mem_erase_of_ne (fun e => hn.1 (by rw [← e]; exact hy))).2 (hb y (List.mem_cons_of_mem _ hy)))
    rw [List.length_erase_of_mem hx] at this
    have hpos : 0 < b.length := List.length_pos_of_mem hx
    rw [List.length_cons]
    omega

theorem IsNums.len {sites : List S} {rows : List (S × List Int)} {v : S} {zs : List Int} (h : IsNums sites.length v rows zs) (hsz : sizesR rows ≤ 2000) : zs.length ≤ 1000000 := by
  have hp := (sizesR_length hsz).2.2 sites.length v rows.length
  rw [List.take_length] at hp
  have hn : zs.Nodup := by
    rw [List.nodup_iff_pairwise_ne]
    exact h.1.imp fun {a b} hab => by omega
  have := nodup_le zs (picks sites.length v rows) hn fun z hz => (h.2 z).1 hz
  omega

theorem IsNums.nil {sites : List S} {rows : List (S × List Int)} {v : S} {zs : List Int} (h : IsNums sites.length v rows zs) : zs = [] ↔ picks sites.length v rows = [] := by
  constructor
  · intro e
    rw [List.eq_nil_iff_forall_not_mem]
    intro z hz
    have := (h.2 z).2 hz
    rw [e] at this
    cases this
  · intro e
    rw [List.eq_nil_iff_forall_not_mem]
    intro z hz
    have := (h.2 z).1 hz
    rw [e] at this
    cases this

section
variable (e : S) (As : Option Addr) (cs : Nat) (Ar : Option Addr) (cr : Nat) (x3 x4 x5 : Value) (rows : List (S × List Int)) (sites : List S) (w : World)
variable (hS : StrRow w As sites) (hR : SetRow w Ar rows) (hsz : sizesR rows ≤ 2000)
include hS hR hsz

theorem pointsNone (v : S) (hv : aliasB sites.length rows v v = false) (W : World) (hB : Below w.heap.size w W) :
    Calls Try.prog 17 #[.agg (repV e As sites.length cs Ar rows.length cr x3 x4 x5), .string (U v)] W fun e w' => ∃ A c, e = .returned (.slice A 0 c) ∧ Below w.heap.size w w' := by
  refine (pointsW e As cs Ar cr x3 x4 x5 rows sites w hS hR hsz v W hB).mono ?_
  rintro ee w' ⟨A, c, zs, rfl, _, _, hz, hB'⟩
  have h0 : picks sites.length v rows = [] := by
    apply Classical.byContradiction
    intro h
    rw [aliasB_self.2 h] at hv
    cases hv
  have h1 := hz.nil.2 h0
  subst h1
  exact ⟨A, c, rfl, hB'⟩

theorem pointsSome (v : S) (hv : aliasB sites.length rows v v = true) (W : World) (hB : Below w.heap.size w W) :
    Calls Try.prog 17 #[.agg (repV e As sites.length cs Ar rows.length cr x3 x4 x5), .string (U v)] W fun e w' => ∃ A m c, e = .returned (.slice A (m + 1) c) ∧ m ≤ 1000000 ∧ Below w.heap.size w w' := by
  refine (pointsW e As cs Ar cr x3 x4 x5 rows sites w hS hR hsz v W hB).mono ?_
  rintro ee w' ⟨A, c, zs, rfl, _, _, hz, hB'⟩
  have hl := hz.len hsz
  have h0 := aliasB_self.1 hv
  match zs, hz, hl with
  | [], hz, _ => exact absurd (hz.nil.1 rfl) h0
  | z :: zs, _, hl => exact ⟨A, zs.length, c, by simp, by simp at hl; omega, hB'⟩

/-- Points, its list under a name of its own. -/
theorem pointsX (v : S) (W : World) (hB : Below w.heap.size w W) :
    Calls Try.prog 17 #[.agg (repV e As sites.length cs Ar rows.length cr x3 x4 x5), .string (U v)] W fun e w' => ∃ A c xs, e = .returned (.slice A xs.length c) ∧ xs.length ≤ c ∧ xs.length ≤ 1000000 ∧ StrRow w' A xs ∧
      (∃ zs, xs = zs.map (siteAt sites) ∧ IsNums sites.length v rows zs) ∧ Below w.heap.size w w' := by
  refine (pointsW e As cs Ar cr x3 x4 x5 rows sites w hS hR hsz v W hB).mono ?_
  rintro ee w' ⟨A, c, zs, rfl, hle, hs, hz, hB'⟩
  exact ⟨A, c, _, rfl, hle, by have := hz.len hsz; simpa using this, hs, ⟨zs, rfl, hz⟩, hB'⟩
end

theorem points_contains {sites : List S} {v : S} {rows : List (S × List Int)} {xs : List S} (h : ∃ zs, xs = zs.map (siteAt sites) ∧ IsNums sites.length v rows zs) (site : S) : xs.contains site = holdsSite sites rows site v := by
  obtain ⟨zs, rfl, hz⟩ := h
  exact contains_points hz site
end Go.Proofs.Ytljfknneijmfoaa
