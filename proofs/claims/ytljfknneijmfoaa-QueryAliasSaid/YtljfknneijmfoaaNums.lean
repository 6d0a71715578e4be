import Derived.Test.YtljfknneijmfoaaPath
import Derived.Test.YtljfknneijmfoaaISort
import Derived.Laws.Strings
namespace Go.Proofs.Ytljfknneijmfoaa
open Go.RowKit Go.Maps Go.WideMaps Go.Lib

theorem toList_U (x : S) : (U x).toList = x := ByteArray.toList_mk x
theorem beq_U_true {x y : S} (h : x = y) : ((U x).toList == (U y).toList) = true := by rw [toList_U, toList_U]; simpa using h
theorem beq_U_false {x y : S} (h : ¬ x = y) : ((U x).toList == (U y).toList) = false := by rw [toList_U, toList_U]; simpa using h

/-- A row of ints that is read. -/
def IntRow (w : World) (A : Option Addr) (zs : List Int) : Prop := ∀ (k : Nat) (z : Int), zs[k]? = some z → ∃ ad, A = some ad ∧ w.cell? (ad.add k) = some (.int .i64 z)

/-- Rows of a variable and its numbers, that are read. -/
def SetRow (w : World) (A : Option Addr) (rows : List (S × List Int)) : Prop := ∀ (k : Nat) (r : S × List Int), rows[k]? = some r → ∃ ad Ai ci, A = some ad ∧ w.cell? (ad.add (k * 2)) = some (.string (U r.1)) ∧
  w.cell? ⟨(ad.add (k * 2)).block, (ad.add (k * 2)).off + 1, none⟩ = some (.slice Ai r.2.length ci) ∧ r.2.length ≤ ci ∧ IntRow w Ai r.2

theorem IntRow.below {w w' : World} {A : Option Addr} {zs : List Int} {k : Nat} (h : IntRow w A zs) (hB : Below k w w') (hk : w.heap.size ≤ k) : IntRow w' A zs := by
  intro j z hz
  obtain ⟨ad, ea, hc⟩ := h j z hz
  have := World.block_lt_of_cell? w _ hc
  exact ⟨ad, ea, (hB.cell (by omega)).trans hc⟩

theorem SetRow.below {w w' : World} {A : Option Addr} {rows : List (S × List Int)} {k : Nat} (h : SetRow w A rows) (hB : Below k w w') (hk : w.heap.size ≤ k) : SetRow w' A rows := by
  intro j r hr
  obtain ⟨ad, Ai, ci, ea, h0, h1, h2, h3⟩ := h j r hr
  have lt0 := World.block_lt_of_cell? w _ h0
  exact ⟨ad, Ai, ci, ea, (hB.cell (by omega)).trans h0, (hB.cell (p := ⟨(ad.add (j * 2)).block, _, none⟩) (by show (ad.add (j * 2)).block < k; omega)).trans h1, h2, h3.below hB hk⟩

/-- Is it a site's number? -/
def isSite (ns : Nat) (z : Int) : Bool := decide (0 ≤ z) && decide (z < (ns : Int))

/-- A variable's numbers, as they stand. -/
def picks (ns : Nat) (v : S) (rows : List (S × List Int)) : List Int := rows.flatMap fun r => if r.1 = v then r.2.filter (isSite ns) else []

theorem picks_snoc (ns : Nat) (v : S) (rows : List (S × List Int)) (k : Nat) (r : S × List Int) (h : rows[k]? = some r) : picks ns v (rows.take (k + 1)) = picks ns v (rows.take k) ++ (if r.1 = v then r.2.filter (isSite ns) else []) := by
  unfold picks
  rw [List.take_add_one, h]
  simp

theorem info3' : (Try.prog.info? 3).map (fun i => (i.zero, i.size, i.bytes)) = some (some (.int .i64 0), 1, 8) := by kernel_rfl

/-- A report, as it is handed on. -/
def repV (e : S) (As : Option Addr) (ns cs : Nat) (Ar : Option Addr) (nr cr : Nat) (x3 x4 x5 : Value) : Array Value := #[.string (U e), .slice As ns cs, .slice Ar nr cr, x3, x4, x5]

set_option maxRecDepth 100000 in
theorem collect52 (e : S) (As : Option Addr) (ns cs : Nat) (Ar : Option Addr) (cr : Nat) (x3 x4 x5 : Value) (rows : List (S × List Int)) (v : S) (w : World) (hR : SetRow w Ar rows) (hn : rows.length ≤ 100000)
    (hs : ∀ j, (picks ns v (rows.take j)).length ≤ 100000) (hl : ∀ r ∈ rows, r.2.length ≤ 100000) :
    Calls Try.prog 52 #[.agg (repV e As ns cs Ar rows.length cr x3 x4 x5), .string (U v)] w fun e w' => ∃ A zs c, e = .returned (.slice A zs.length c) ∧ zs.length ≤ c ∧ zs.length ≤ 100000 ∧ (zs.length = 0 ∨ ∃ g, A = some ⟨g, 0, none⟩) ∧ IntRow w' A zs ∧ Asc zs ∧ (∀ z, z ∈ zs ↔ z ∈ picks ns v rows) ∧ Below w.heap.size w w' := by
  obtain ⟨i3, hi3, hz30, hz31, hz32⟩ := info_parts info3'
  have HR := Lib.hid hR
  have HS := Lib.hid hs
  have HL := Lib.hid hl
  clear hR hs hl
  unfold repV
  go_enter Try.func52, Try.ntmps52
  go_wp2
  obtain ⟨w1, hw1⟩ : ∃ w1, w1 = w.alloc (.cells #[.string (U e), .slice As ns cs, .slice Ar rows.length cr, x3, x4, x5] 32) := ⟨_, rfl⟩
  rw [← hw1]
  have hb1 : Below w.heap.size w w1 := by rw [hw1]; exact (Below.refl _ w).alloc (Nat.le_refl _) _
  have hz1 : w1.heap.size = w.heap.size + 1 := by rw [hw1]; exact World.size_alloc _ _
  have hc1 : w1.heap[w.heap.size]? = some (.cells #[.string (U e), .slice As ns cs, .slice Ar rows.length cr, x3, x4, x5] 32) := by rw [hw1]; exact block_new _ _
  have HB1 := Lib.hid hb1
  have HZ1 := Lib.hid hz1
  have HC1 := Lib.hid hc1
  have HR1 := Lib.hid (HR.out.below hb1 (Nat.le_refl _))
  clear hb1 hz1 hc1 hw1
  go_loopw [4, 12] (fun s4 i wr => ∃ (k : Nat) (A4 : Option Addr) (c4 : Nat), k ≤ rows.length ∧ i = .int .i64 k ∧ s4 = .slice A4 (picks ns v (rows.take k)).length c4 ∧
    wr.ownsRow w1.heap.size 3 1 (.slice A4 (picks ns v (rows.take k)).length c4) (picks ns v (rows.take k)).length ((picks ns v (rows.take k)).map (Value.int .i64)) ∧ Below w1.heap.size w1 wr) (fun _ i _ => rows.length - (intOf i).toNat)
  case atStart =>
    refine ⟨0, none, 0, Nat.zero_le _, rfl, ?_, ?_, Below.refl _ _⟩
    · simp [picks]
    · simpa [picks] using World.ownsRow_nil w1 w1.heap.size 3 1
  case round =>
    obtain ⟨k, A4, c4, hk, rfl, rfl, hown, hB⟩ := hrel
    have HOWN := Lib.hid hown
    have HB := Lib.hid hB
    clear hown hB
    by_cases hlt : k < rows.length
    · obtain ⟨⟨rv, rz⟩, hr⟩ : ∃ r, rows[k]? = some r := ⟨_, List.getElem?_eq_getElem hlt⟩
      obtain ⟨ad, Ai, ci, rfl, h0, h1, hci, hzr⟩ := HR1.out k _ hr
      dsimp only at h0 h1 hci hzr
      have lt0 := World.block_lt_of_cell? w1 _ h0
      replace h0 := (HB.out.cell lt0).trans h0
      replace h1 := (HB.out.cell (p := ⟨(ad.add (k * 2)).block, _, none⟩) lt0).trans h1
      clear lt0
      have hkb : k ≤ 1000000 := by omega
      have hps := picks_snoc ns v rows k _ hr
      have hzl := HL.out _ (List.mem_of_getElem? hr)
      dsimp only at hps hzl
      have HPS := Lib.hid hps
      have HZR := Lib.hid hzr
      clear hps hzr hr
      by_cases hv : rv = v
      · have hbe := beq_U_true hv
        have HV := Lib.hid hv
        clear hv
        go_wp2_with fail
        obtain ⟨wo, hwo⟩ : ∃ wo : World, wo = wr.alloc (.cells #[.string (U rv), .slice Ai rz.length ci] 75) := ⟨_, rfl⟩
        rw [← hwo]
        have hBo : Below w1.heap.size w1 wo := by rw [hwo]; exact HB.out.alloc (HB.out.size) _
        have hOo := HOWN.out.alloc (.cells #[.string (U rv), .slice Ai rz.length ci] 75)
        rw [← hwo] at hOo
        have HBO := Lib.hid hBo
        have HOO := Lib.hid hOo
        clear hBo hOo hwo
        go_loopw [4, 23] (fun s4 i wr2 => ∃ (j : Nat) (acc : List Int) (A5 : Option Addr) (c5 : Nat), j ≤ rz.length ∧ i = .int .i64 j ∧ acc = picks ns v (rows.take k) ++ (rz.take j).filter (isSite ns) ∧ s4 = .slice A5 acc.length c5 ∧
          wr2.ownsRow w1.heap.size 3 1 (.slice A5 acc.length c5) acc.length (acc.map (Value.int .i64)) ∧ Below w1.heap.size w1 wr2) (fun _ i _ => rz.length - (intOf i).toNat)
        case atStart =>
          exact ⟨0, picks ns v (rows.take k), A4, c4, Nat.zero_le _, rfl, by simp, rfl, HOO.out, HBO.out⟩
        case round =>
          obtain ⟨j, acc, A5, c5, hj, rfl, hacc, rfl, hown2, hB2⟩ := hrel
          have hal : acc.length ≤ 200000 := by
            have h1 := HS.out k
            have h2 : ((rz.take j).filter (isSite ns)).length ≤ rz.length := Nat.le_trans (List.length_filter_le _ _) (by simp; omega)
            rw [hacc, List.length_append]
            omega
          have HACC := Lib.hid hacc
          have HOW2 := Lib.hid hown2
          have HB2 := Lib.hid hB2
          clear hacc hown2 hB2
          by_cases hltj : j < rz.length
          · obtain ⟨z, hz⟩ : ∃ z, rz[j]? = some z := ⟨_, List.getElem?_eq_getElem hltj⟩
            obtain ⟨az, rfl, hcz⟩ := (HZR.out.below HB2.out (Nat.le_refl _)) j z hz
            have hjb : j ≤ 1000000 := by omega
            have hz1 := HZ1.out
            have hc1 := cell_of_block (j := 1) ((HB2.out.block w.heap.size (by omega)).trans HC1.out) rfl
            have hfilt : (rz.take (j + 1)).filter (isSite ns) = (rz.take j).filter (isSite ns) ++ (if isSite ns z = true then [z] else []) := by
              rw [List.take_add_one, hz]
              simp [List.filter_append, List.filter_cons]
            have HF := Lib.hid hfilt
            clear hfilt hz hz1
            by_cases h0z : 0 ≤ z
            · by_cases h1z : z < (ns : Int)
              · have his : isSite ns z = true := by simp [isSite, h0z, h1z]
                have HIS := Lib.hid his
                clear his
                go_wp2_with (first
                  | (at_builtin; refine wpList_append_lies _ (by rfl) _ _ _ (by rfl) w1.heap.size 3 i3 _ 1 8 Try.underlying72 hi3 hz30 hz31 hz32 rfl (by omega) (.slice A5 acc.length c5) _ _ (by rfl) (HOW2.out.alloc _) ⟨wr.heap.size, 0, none⟩ 1 1 [.int .i64 z] (by rfl) (by rfl) (World.news_of_block (cs := #[.int .i64 z]) (t := 3) (fr := (0, 0)) (heap_alloc_new wr _)) (by simp [Value.oneCell']) (by omega) (by unfold maxLen; omega) (by omega) (by have := HB2.out.size; simp; omega) (wr.heap.size + 1) (by simp) ?_; intro gg cap' w3 hown3 hgrow hat hlt3; have HO3 := Lib.hid hown3; have HG3 := Lib.hid hgrow; clear hown3 hgrow hat hlt3))
                go_roundw
                case measure => simp [intOf]; omega
                case rel =>
                  refine ⟨j + 1, acc ++ [z], some ⟨gg, 0, none⟩, cap', hltj, by go_num, ?_, by simp, ?_, ?_⟩
                  · rw [HF.out, if_pos HIS.out, HACC.out, List.append_assoc]
                  · have := HO3.out
                    simpa using this
                  · have hb := HB2.out.alloc HB2.out.size (.cells #[.int .i64 z] 3)
                    exact hb.grown HG3.out hb.size (fun q hq => (HOW2.out.lt q hq).1)
              · have his : isSite ns z = false := by simp [isSite, h0z]; omega
                have HIS := Lib.hid his
                clear his
                go_wp2_with fail
                go_roundw
                case measure => simp [intOf]; omega
                case rel =>
                  refine ⟨j + 1, acc, A5, c5, hltj, by go_num, ?_, rfl, HOW2.out, HB2.out⟩
                  rw [HF.out, HIS.out, HACC.out]
                  simp
            · have his : isSite ns z = false := by simp [isSite, h0z]
              have HIS := Lib.hid his
              clear his
              go_wp2_with fail
              go_roundw
              case measure => simp [intOf]; omega
              case rel =>
                refine ⟨j + 1, acc, A5, c5, hltj, by go_num, ?_, rfl, HOW2.out, HB2.out⟩
                rw [HF.out, HIS.out, HACC.out]
                simp
          · have hje : j = rz.length := by omega
            subst hje
            go_wp2_with fail
            go_roundw
            case measure => simp [intOf]; omega
            case rel =>
              have hac := HACC.out
              rw [List.take_length] at hac
              have hps := HPS.out
              rw [if_pos HV.out, ← hac] at hps
              refine ⟨k + 1, A5, c5, hlt, by go_num, by rw [hps], ?_, HB2.out⟩
              rw [hps]
              exact HOW2.out
      · have hbe := beq_U_false hv
        have HV := Lib.hid hv
        clear hv
        go_wp2_with fail
        go_roundw
        case measure => simp [intOf]; omega
        case rel =>
          have hps := HPS.out
          rw [if_neg HV.out, List.append_nil] at hps
          refine ⟨k + 1, A4, c4, hlt, by go_num, by rw [hps], ?_, HB.out.alloc HB.out.size _⟩
          rw [hps]
          exact HOWN.out.alloc _
    · have hke : k = rows.length := by omega
      subst hke
      rw [List.take_length] at HOWN
      have hpl : (picks ns v rows).length ≤ 100000 := by
        have := HS.out rows.length
        rwa [List.take_length] at this
      have HPL := Lib.hid hpl
      clear hpl hlt hk HR HR1 HL
      go_wp2_with (first
        | (go_at_call 81; refine (sort81 HOWN.out (by have := HPL.out; omega)).mono ?_; rintro e w2 ⟨rfl, ho2, hb2⟩; have HO2 := Lib.hid ho2; have HB2 := Lib.hid hb2; clear ho2 hb2)
        | (go_at_call 82; have h82 := HO2.out; rw [← List.length_mergeSort (le := fun x y : Int => decide (x ≤ y)) (picks ns v rows)] at h82; have h82' := compact82 h82; rw [List.length_mergeSort] at h82'; refine h82'.mono ?_; rintro e w3 ⟨v3, rfl, ho3, hb3⟩; have HO3 := Lib.hid ho3; have HB3 := Lib.hid hb3; clear h82 h82' ho3 hb3))
      go_ret
      obtain ⟨hc1, hc2⟩ := icompact_sorted (picks ns v rows)
      have ho3 := HO3.out
      have hcl : (compact ((picks ns v rows).mergeSort fun x y => decide (x ≤ y))).length ≤ 100000 := by
        have h1 := HPL.out
        unfold compact compactUpTo
        rw [List.length_map]
        refine Nat.le_trans (List.length_filter_le _ _) ?_
        rw [List.length_range]
        simp [List.length_mergeSort]
        exact h1
      have hsz := HB1.out.size
      have hz1 := HZ1.out
      rcases ho3.2 with ⟨rfl, h0⟩ | ⟨g, cap, cur, rfl, hg, hh, hnc, hcm, hcs, ht⟩
      · refine ⟨none, _, 0, by (rw [h0]; rfl), by (rw [h0]; exact Nat.le_refl _), hcl, .inl h0, ?_, hc1, hc2, ?_⟩
        · intro q z hq
          rw [List.length_eq_zero_iff.1 h0] at hq
          cases hq
        · exact (HB1.out.trans ((HB.out.mono (by omega)).trans ((HB2.out.mono (by omega)).trans (HB3.out.mono (by omega)))))
      · refine ⟨_, _, cap, rfl, hnc, hcl, .inr ⟨g, rfl⟩, ?_, hc1, hc2, ?_⟩
        · intro q z hq
          refine ⟨⟨g, 0, none⟩, rfl, ?_⟩
          rw [Go.Proofs.YtljfknneijmfoaaW.PrintWords.add_at, cell_of_row _ g _ cur 3 (0, 0) hh]
          have hql : q < (compact ((picks ns v rows).mergeSort fun x y => decide (x ≤ y))).length := (List.getElem?_eq_some_iff.1 hq).1
          have : (cur.toList.take ((compact ((picks ns v rows).mergeSort fun x y => decide (x ≤ y))).length * 1))[q]? = some (Value.int .i64 z) := by
            rw [ht, List.getElem?_map, hq]
            rfl
          rw [List.getElem?_take_of_lt (by omega), Array.getElem?_toList] at this
          simpa using this
        · exact (HB1.out.trans ((HB.out.mono (by omega)).trans ((HB2.out.mono (by omega)).trans (HB3.out.mono (by omega)))))
end Go.Proofs.Ytljfknneijmfoaa
