import Derived.Test.YtljfknneijmfoaaMaps
import Derived.Test.YtljfknneijmfoaaNet
import Derived.Test.YtljfknneijmfoaaPath
import Derived.Laws.Strings
namespace Go.Proofs.Ytljfknneijmfoaa
open Go.RowKit Go.Maps Go.WideMaps Go.Sort Go.Lib

/-- Strictly ascending. -/
def Asc (l : List Int) : Prop := l.Pairwise (· < ·)

abbrev eI : Int → Value := Value.int .i64

/-- slices.Sort of ints that the call owns. -/
theorem sort81 {w : World} {base : Nat} {v : Value} {zs : List Int} (h : w.ownsRow base 3 1 v zs.length (zs.map eI)) (hn : zs.length ≤ 1000000) :
    Calls Try.prog 81 #[v] w fun e w' => e = .returned (.tuple #[]) ∧ w'.ownsRow base 3 1 v zs.length ((zs.mergeSort fun x y => decide (x ≤ y)).map eI) ∧ Below base w w' := by
  by_cases hv : v = .slice none 0 0
  · subst hv
    have h0 : zs = [] := by
      rcases h.2 with ⟨_, h0⟩ | ⟨g, cap, cur, e0, _⟩
      · exact List.length_eq_zero_iff.1 h0
      · cases e0
    subst h0
    refine (Try.slices_Sort_int_none none 0 w).mono ?_
    rintro e w' ⟨rfl, rfl⟩
    exact ⟨rfl, by simpa using h, Below.refl _ _⟩
  · obtain ⟨g, cap, rfl, hg, hlt, hcap, hmax, hl, hH⟩ := holds_of_ownsRow h hv
    refine (Try.slices_Sort_int g 0 cap zs w hH hlt (by omega)).mono ?_
    rintro e w' ⟨rfl, n, os, rfl⟩
    have h1 := ownsRow_putRow (q := n) (ys := zs.mergeSort fun x y => decide (x ≤ y)) h (List.length_mergeSort _) (Nat.le_refl _)
    rw [List.take_of_length_le (by rw [List.length_mergeSort]; exact Nat.le_refl _)] at h1
    refine ⟨rfl, own_block h1 fun k hk => heap_grow_old _ _ (h1.lt k hk).2, ?_⟩
    have hb := below_putRow (enc := eI) (q := n) (d := (zs.mergeSort fun x y => decide (x ≤ y)).toArray) (Below.refl base w) hg
    refine ⟨hb.os, hb.tape, hb.output, ?_, fun k hk => ?_⟩
    · have := hb.size
      simp at this ⊢
      try omega
    · rw [heap_grow_old _ _ (by simp; omega)]
      exact hb.block k hk

/-- slices.Compact of ints that the call owns: what comes back can be read. -/
theorem compact82 {w : World} {base : Nat} {v : Value} {zs : List Int} (h : w.ownsRow base 3 1 v zs.length (zs.map eI)) :
    Calls Try.prog 82 #[v] w fun e w' => ∃ v', e = .returned v' ∧ w'.ownsRow base 3 1 v' (Go.Lib.compact zs).length ((Go.Lib.compact zs).map eI) ∧ Below base w w' := by
  by_cases hv : v = .slice none 0 0
  · subst hv
    have h0 : zs = [] := by
      rcases h.2 with ⟨_, h0⟩ | ⟨g, cap, cur, e0, _⟩
      · exact List.length_eq_zero_iff.1 h0
      · cases e0
    subst h0
    refine (Try.slices_Compact_int_empty none 0 w).mono ?_
    rintro e w' ⟨rfl, rfl⟩
    exact ⟨_, rfl, by simpa [Go.Lib.compact, Go.Lib.compactUpTo] using h, Below.refl _ _⟩
  · obtain ⟨g, cap, rfl, hg, hlt, hcap, hmax, hl, hH⟩ := holds_of_ownsRow h hv
    refine (Try.slices_Compact_int g 0 cap zs w hH (by unfold maxLen at hmax; omega) hcap).mono ?_
    rintro e w' ⟨rfl, q, rfl⟩
    have hle : (Go.Lib.compact zs).length ≤ zs.length := by
      unfold Go.Lib.compact Go.Lib.compactUpTo
      rw [List.length_map]
      exact Nat.le_trans (List.length_filter_le _ _) (by simp)
    refine ⟨_, rfl, ?_, below_putRow (Below.refl base w) hg⟩
    have := ownsRow_putRow (q := q) (ys := Go.Lib.compact zs ++ List.replicate (zs.length - (Go.Lib.compact zs).length) 0) h (by simp; omega) hle
    rwa [List.take_left'] at this
    rfl

theorem icompact_step (d : Array Int) (hs : ∀ j, j + 1 < d.size → d[j]! ≤ d[j + 1]!) (m : Nat) (hm : m ≤ d.size) :
    Asc (Go.Lib.compactUpTo d m) ∧ (∀ x, x ∈ Go.Lib.compactUpTo d m ↔ ∃ j, j < m ∧ d[j]! = x) ∧ ∀ x, x ∈ Go.Lib.compactUpTo d m → 0 < m → x ≤ d[m - 1]! := by
  induction m with
  | zero =>
    refine ⟨List.Pairwise.nil, fun x => ⟨fun h => by simp [Go.Lib.compactUpTo] at h, fun ⟨j, hj, _⟩ => by omega⟩, fun x _ h => by omega⟩
  | succ m ih =>
    obtain ⟨i1, i2, i3⟩ := ih (by omega)
    rw [Go.Lib.compactUpTo_succ]
    have hle : 0 < m → d[m - 1]! ≤ d[m]! := fun h0 => by
      have := hs (m - 1) (by omega)
      rwa [show m - 1 + 1 = m by omega] at this
    have hall : ∀ x, x ∈ Go.Lib.compactUpTo d m → x ≤ d[m]! := fun x hx => by
      have h0 : 0 < m := by
        obtain ⟨j, hj, _⟩ := (i2 x).1 hx; omega
      exact Int.le_trans (i3 x hx h0) (hle h0)
    by_cases hk : Go.Lib.keeps d m = true
    · rw [if_pos hk]
      refine ⟨?_, fun x => ?_, fun x hx _ => ?_⟩
      · unfold Asc
        rw [List.pairwise_append]
        refine ⟨i1, by simp, fun a ha b hb => ?_⟩
        simp at hb
        subst hb
        have h0 : 0 < m := by obtain ⟨j, hj, _⟩ := (i2 a).1 ha; omega
        have hne : d[m]! ≠ d[m - 1]! := by
          intro e
          rw [Go.Lib.keeps_neg h0 e] at hk
          cases hk
        have h1 : a ≤ d[m - 1]! := i3 a ha h0
        have h2 := hle h0
        omega
      · rw [List.mem_append, i2]
        constructor
        · rintro (⟨j, hj, e⟩ | h)
          · exact ⟨j, by omega, e⟩
          · exact ⟨m, by omega, (List.mem_singleton.1 h).symm⟩
        · rintro ⟨j, hj, e⟩
          by_cases hjm : j = m
          · right; rw [← e, hjm]; simp
          · exact .inl ⟨j, by omega, e⟩
      · rw [Nat.add_sub_cancel]
        rcases List.mem_append.1 hx with h | h
        · exact hall x h
        · rw [List.mem_singleton.1 h]; exact Int.le_refl _
    · rw [if_neg hk, List.append_nil]
      have h0 : 0 < m := by
        apply Nat.pos_of_ne_zero
        rintro rfl
        exact hk (Go.Lib.keeps_lt_one d 0 (by omega))
      have he : d[m]! = d[m - 1]! := by
        apply Classical.byContradiction
        intro hne
        exact hk (Go.Lib.keeps_pos hne)
      refine ⟨i1, fun x => ?_, fun x hx _ => ?_⟩
      · rw [i2]
        constructor
        · rintro ⟨j, hj, e⟩; exact ⟨j, by omega, e⟩
        · rintro ⟨j, hj, e⟩
          by_cases hjm : j = m
          · exact ⟨m - 1, by omega, by rw [← he, ← hjm]; exact e⟩
          · exact ⟨j, by omega, e⟩
      · rw [Nat.add_sub_cancel]; exact hall x hx

/-- Sorted and compacted: the members, ascending, each once. -/
theorem icompact_sorted (xs : List Int) : Asc (Go.Lib.compact (xs.mergeSort fun x y => decide (x ≤ y))) ∧ ∀ x, x ∈ Go.Lib.compact (xs.mergeSort fun x y => decide (x ≤ y)) ↔ x ∈ xs := by
  have hp := List.pairwise_mergeSort (le := fun x y : Int => decide (x ≤ y)) (fun a b c h h' => by simp at *; omega) (fun a b => by simp; omega) xs
  have hm := (List.mergeSort_perm xs fun x y => decide (x ≤ y))
  generalize xs.mergeSort (fun x y => decide (x ≤ y)) = ys at hp hm
  have hs : ∀ j, j + 1 < ys.toArray.size → ys.toArray[j]! ≤ ys.toArray[j + 1]! := by
    intro j hj
    simp only [List.size_toArray] at hj
    rw [getElem!_pos ys.toArray j (by simp; omega), getElem!_pos ys.toArray (j + 1) (by simpa using hj)]
    have := (List.pairwise_iff_getElem.1 hp) j (j + 1) (by omega) hj (by omega)
    simpa using this
  obtain ⟨h1, h2, _⟩ := icompact_step ys.toArray hs ys.length (by simp)
  refine ⟨h1, fun x => ?_⟩
  unfold Go.Lib.compact
  rw [h2, ← hm.mem_iff]
  constructor
  · rintro ⟨j, hj, rfl⟩
    rw [getElem!_pos ys.toArray j (by simpa using hj)]
    simp
  · intro hx
    obtain ⟨j, hj, e⟩ := List.mem_iff_getElem.1 hx
    exact ⟨j, hj, by rw [getElem!_pos ys.toArray j (by simpa using hj)]; simpa using e⟩
end Go.Proofs.Ytljfknneijmfoaa

namespace Go.Proofs.Ytljfknneijmfoaa
open Go.RowKit Go.Maps Go.WideMaps Go.Lib

theorem toList_U (x : S) : (U x).toList = x := ByteArray.toList_mk x
theorem beq_U_true {x y : S} (h : x = y) : ((U x).toList == (U y).toList) = true := by rw [toList_U, toList_U]; simpa using h
theorem beq_U_false {x y : S} (h : ¬ x = y) : ((U x).toList == (U y).toList) = false := by rw [toList_U, toList_U]; simpa using h

/-- A row of ints that is read. -/
def IntRow (w : World) (A : Option Addr) (zs : List Int) : Prop := ∀ (k : Nat) (z : Int), zs[k]? = some z → ∃ ad, A = some ad ∧ w.cell? (ad.add k) = some (.int .i64 z)

/-- Rows of a variable and its numbers, that are read. -/
def SetRow (w : World) (A : Option Addr) (rows : List (S × List Int)) : Prop := ∀ (k : Nat) (r : S × List Int), rows[k]? = some r → ∃ ad Ai ci, A = some ad ∧ w.cell? (ad.add (k * 2)) = some (.string (U r.1)) ∧
  w.cell? ⟨(ad.add (k * 2)).block, (ad.add (k * 2)).off + 1, none⟩ = some (.slice Ai r.2.length ci) ∧ r.2.length ≤ ci ∧ IntRow w Ai r.2

theorem IntRow.below {w w' : World} {A : Option Addr} {zs : List Int} {k : Nat} (h : IntRow w A zs) (hB : Below k w w') (hk : w.heap.size ≤ k) : IntRow w' A zs := by
  intro j z hz
  obtain ⟨ad, ea, hc⟩ := h j z hz
  have := World.block_lt_of_cell? w _ hc
  exact ⟨ad, ea, (hB.cell (by omega)).trans hc⟩

theorem SetRow.below {w w' : World} {A : Option Addr} {rows : List (S × List Int)} {k : Nat} (h : SetRow w A rows) (hB : Below k w w') (hk : w.heap.size ≤ k) : SetRow w' A rows := by
  intro j r hr
  obtain ⟨ad, Ai, ci, ea, h0, h1, h2, h3⟩ := h j r hr
  have lt0 := World.block_lt_of_cell? w _ h0
  exact ⟨ad, Ai, ci, ea, (hB.cell (by omega)).trans h0, (hB.cell (p := ⟨(ad.add (j * 2)).block, _, none⟩) (by show (ad.add (j * 2)).block < k; omega)).trans h1, h2, h3.below hB hk⟩

/-- Is it a site's number? -/
def isSite (ns : Nat) (z : Int) : Bool := decide (0 ≤ z) && decide (z < (ns : Int))

/-- A variable's numbers, as they stand. -/
def picks (ns : Nat) (v : S) (rows : List (S × List Int)) : List Int := rows.flatMap fun r => if r.1 = v then r.2.filter (isSite ns) else []

theorem picks_snoc (ns : Nat) (v : S) (rows : List (S × List Int)) (k : Nat) (r : S × List Int) (h : rows[k]? = some r) : picks ns v (rows.take (k + 1)) = picks ns v (rows.take k) ++ (if r.1 = v then r.2.filter (isSite ns) else []) := by
  unfold picks
  rw [List.take_add_one, h]
  simp

theorem info3' : (Try.prog.info? 3).map (fun i => (i.zero, i.size, i.bytes)) = some (some (.int .i64 0), 1, 8) := by kernel_rfl

/-- A report, as it is handed on. -/
def repV (e : S) (As : Option Addr) (ns cs : Nat) (Ar : Option Addr) (nr cr : Nat) (x3 x4 x5 : Value) : Array Value := #[.string (U e), .slice As ns cs, .slice Ar nr cr, x3, x4, x5]

set_option maxRecDepth 100000 in
theorem collect52 (e : S) (As : Option Addr) (ns cs : Nat) (Ar : Option Addr) (cr : Nat) (x3 x4 x5 : Value) (rows : List (S × List Int)) (v : S) (w : World) (hR : SetRow w Ar rows) (hn : rows.length ≤ 100000)
    (hs : ∀ j, (picks ns v (rows.take j)).length ≤ 100000) (hl : ∀ r ∈ rows, r.2.length ≤ 100000) :
    Calls Try.prog 52 #[.agg (repV e As ns cs Ar rows.length cr x3 x4 x5), .string (U v)] w fun e w' => ∃ A zs c, e = .returned (.slice A zs.length c) ∧ zs.length ≤ c ∧ zs.length ≤ 100000 ∧ (zs.length = 0 ∨ ∃ g, A = some ⟨g, 0, none⟩) ∧ IntRow w' A zs ∧ Asc zs ∧ (∀ z, z ∈ zs ↔ z ∈ picks ns v rows) ∧ Below w.heap.size w w' := by
  obtain ⟨i3, hi3, hz30, hz31, hz32⟩ := info_parts info3'
  have HR := Lib.hid hR
  have HS := Lib.hid hs
  have HL := Lib.hid hl
  clear hR hs hl
  unfold repV
  go_enter Try.func52, Try.ntmps52
  go_wp2
  obtain ⟨w1, hw1⟩ : ∃ w1, w1 = w.alloc (.cells #[.string (U e), .slice As ns cs, .slice Ar rows.length cr, x3, x4, x5] 32) := ⟨_, rfl⟩
  rw [← hw1]
  have hb1 : Below w.heap.size w w1 := by rw [hw1]; exact (Below.refl _ w).alloc (Nat.le_refl _) _
  have hz1 : w1.heap.size = w.heap.size + 1 := by rw [hw1]; exact World.size_alloc _ _
  have hc1 : w1.heap[w.heap.size]? = some (.cells #[.string (U e), .slice As ns cs, .slice Ar rows.length cr, x3, x4, x5] 32) := by rw [hw1]; exact block_new _ _
  have HB1 := Lib.hid hb1
  have HZ1 := Lib.hid hz1
  have HC1 := Lib.hid hc1
  have HR1 := Lib.hid (HR.out.below hb1 (Nat.le_refl _))
  clear hb1 hz1 hc1 hw1
  go_loopw [4, 12] (fun s4 i wr => ∃ (k : Nat) (A4 : Option Addr) (c4 : Nat), k ≤ rows.length ∧ i = .int .i64 k ∧ s4 = .slice A4 (picks ns v (rows.take k)).length c4 ∧
    wr.ownsRow w1.heap.size 3 1 (.slice A4 (picks ns v (rows.take k)).length c4) (picks ns v (rows.take k)).length ((picks ns v (rows.take k)).map (Value.int .i64)) ∧ Below w1.heap.size w1 wr) (fun _ i _ => rows.length - (intOf i).toNat)
  case atStart =>
    refine ⟨0, none, 0, Nat.zero_le _, rfl, ?_, ?_, Below.refl _ _⟩
    · simp [picks]
    · simpa [picks] using World.ownsRow_nil w1 w1.heap.size 3 1
  case round =>
    obtain ⟨k, A4, c4, hk, rfl, rfl, hown, hB⟩ := hrel
    have HOWN := Lib.hid hown
    have HB := Lib.hid hB
    clear hown hB
    by_cases hlt : k < rows.length
    · obtain ⟨⟨rv, rz⟩, hr⟩ : ∃ r, rows[k]? = some r := ⟨_, List.getElem?_eq_getElem hlt⟩
      obtain ⟨ad, Ai, ci, rfl, h0, h1, hci, hzr⟩ := HR1.out k _ hr
      dsimp only at h0 h1 hci hzr
      have lt0 := World.block_lt_of_cell? w1 _ h0
      replace h0 := (HB.out.cell lt0).trans h0
      replace h1 := (HB.out.cell (p := ⟨(ad.add (k * 2)).block, _, none⟩) lt0).trans h1
      clear lt0
      have hkb : k ≤ 1000000 := by omega
      have hps := picks_snoc ns v rows k _ hr
      have hzl := HL.out _ (List.mem_of_getElem? hr)
      dsimp only at hps hzl
      have HPS := Lib.hid hps
      have HZR := Lib.hid hzr
      clear hps hzr hr
      by_cases hv : rv = v
      · have hbe := beq_U_true hv
        have HV := Lib.hid hv
        clear hv
        go_wp2_with fail
        obtain ⟨wo, hwo⟩ : ∃ wo : World, wo = wr.alloc (.cells #[.string (U rv), .slice Ai rz.length ci] 75) := ⟨_, rfl⟩
        rw [← hwo]
        have hBo : Below w1.heap.size w1 wo := by rw [hwo]; exact HB.out.alloc (HB.out.size) _
        have hOo := HOWN.out.alloc (.cells #[.string (U rv), .slice Ai rz.length ci] 75)
        rw [← hwo] at hOo
        have HBO := Lib.hid hBo
        have HOO := Lib.hid hOo
        clear hBo hOo hwo
        go_loopw [4, 23] (fun s4 i wr2 => ∃ (j : Nat) (acc : List Int) (A5 : Option Addr) (c5 : Nat), j ≤ rz.length ∧ i = .int .i64 j ∧ acc = picks ns v (rows.take k) ++ (rz.take j).filter (isSite ns) ∧ s4 = .slice A5 acc.length c5 ∧
          wr2.ownsRow w1.heap.size 3 1 (.slice A5 acc.length c5) acc.length (acc.map (Value.int .i64)) ∧ Below w1.heap.size w1 wr2) (fun _ i _ => rz.length - (intOf i).toNat)
        case atStart =>
          exact ⟨0, picks ns v (rows.take k), A4, c4, Nat.zero_le _, rfl, by simp, rfl, HOO.out, HBO.out⟩
        case round =>
          obtain ⟨j, acc, A5, c5, hj, rfl, hacc, rfl, hown2, hB2⟩ := hrel
          have hal : acc.length ≤ 200000 := by
            have h1 := HS.out k
            have h2 : ((rz.take j).filter (isSite ns)).length ≤ rz.length := Nat.le_trans (List.length_filter_le _ _) (by simp; omega)
            rw [hacc, List.length_append]
            omega
          have HACC := Lib.hid hacc
          have HOW2 := Lib.hid hown2
          have HB2 := Lib.hid hB2
          clear hacc hown2 hB2
          by_cases hltj : j < rz.length
          · obtain ⟨z, hz⟩ : ∃ z, rz[j]? = some z := ⟨_, List.getElem?_eq_getElem hltj⟩
            obtain ⟨az, rfl, hcz⟩ := (HZR.out.below HB2.out (Nat.le_refl _)) j z hz
            have hjb : j ≤ 1000000 := by omega
            have hz1 := HZ1.out
            have hc1 := cell_of_block (j := 1) ((HB2.out.block w.heap.size (by omega)).trans HC1.out) rfl
            have hfilt : (rz.take (j + 1)).filter (isSite ns) = (rz.take j).filter (isSite ns) ++ (if isSite ns z = true then [z] else []) := by
              rw [List.take_add_one, hz]
              simp [List.filter_append, List.filter_cons]
            have HF := Lib.hid hfilt
            clear hfilt hz hz1
            by_cases h0z : 0 ≤ z
            · by_cases h1z : z < (ns : Int)
              · have his : isSite ns z = true := by simp [isSite, h0z, h1z]
                have HIS := Lib.hid his
                clear his
                go_wp2_with (first
                  | (at_builtin; refine wpList_append_lies _ (by rfl) _ _ _ (by rfl) w1.heap.size 3 i3 _ 1 8 Try.underlying72 hi3 hz30 hz31 hz32 rfl (by omega) (.slice A5 acc.length c5) _ _ (by rfl) (HOW2.out.alloc _) ⟨wr.heap.size, 0, none⟩ 1 1 [.int .i64 z] (by rfl) (by rfl) (World.news_of_block (cs := #[.int .i64 z]) (t := 3) (fr := (0, 0)) (heap_alloc_new wr _)) (by simp [Value.oneCell']) (by omega) (by unfold maxLen; omega) (by omega) (by have := HB2.out.size; simp; omega) (wr.heap.size + 1) (by simp) ?_; intro gg cap' w3 hown3 hgrow hat hlt3; have HO3 := Lib.hid hown3; have HG3 := Lib.hid hgrow; clear hown3 hgrow hat hlt3))
                go_roundw
                case measure => simp [intOf]; omega
                case rel =>
                  refine ⟨j + 1, acc ++ [z], some ⟨gg, 0, none⟩, cap', hltj, by go_num, ?_, by simp, ?_, ?_⟩
                  · rw [HF.out, if_pos HIS.out, HACC.out, List.append_assoc]
                  · have := HO3.out
                    simpa using this
                  · have hb := HB2.out.alloc HB2.out.size (.cells #[.int .i64 z] 3)
                    exact hb.grown HG3.out hb.size (fun q hq => (HOW2.out.lt q hq).1)
              · have his : isSite ns z = false := by simp [isSite, h0z]; omega
                have HIS := Lib.hid his
                clear his
                go_wp2_with fail
                go_roundw
                case measure => simp [intOf]; omega
                case rel =>
                  refine ⟨j + 1, acc, A5, c5, hltj, by go_num, ?_, rfl, HOW2.out, HB2.out⟩
                  rw [HF.out, HIS.out, HACC.out]
                  simp
            · have his : isSite ns z = false := by simp [isSite, h0z]
              have HIS := Lib.hid his
              clear his
              go_wp2_with fail
              go_roundw
              case measure => simp [intOf]; omega
              case rel =>
                refine ⟨j + 1, acc, A5, c5, hltj, by go_num, ?_, rfl, HOW2.out, HB2.out⟩
                rw [HF.out, HIS.out, HACC.out]
                simp
          · have hje : j = rz.length := by omega
            subst hje
            go_wp2_with fail
            go_roundw
            case measure => simp [intOf]; omega
            case rel =>
              have hac := HACC.out
              rw [List.take_length] at hac
              have hps := HPS.out
              rw [if_pos HV.out, ← hac] at hps
              refine ⟨k + 1, A5, c5, hlt, by go_num, by rw [hps], ?_, HB2.out⟩
              rw [hps]
              exact HOW2.out
      · have hbe := beq_U_false hv
        have HV := Lib.hid hv
        clear hv
        go_wp2_with fail
        go_roundw
        case measure => simp [intOf]; omega
        case rel =>
          have hps := HPS.out
          rw [if_neg HV.out, List.append_nil] at hps
          refine ⟨k + 1, A4, c4, hlt, by go_num, by rw [hps], ?_, HB.out.alloc HB.out.size _⟩
          rw [hps]
          exact HOWN.out.alloc _
    · have hke : k = rows.length := by omega
      subst hke
      rw [List.take_length] at HOWN
      have hpl : (picks ns v rows).length ≤ 100000 := by
        have := HS.out rows.length
        rwa [List.take_length] at this
      have HPL := Lib.hid hpl
      clear hpl hlt hk HR HR1 HL
      go_wp2_with (first
        | (go_at_call 81; refine (sort81 HOWN.out (by have := HPL.out; omega)).mono ?_; rintro e w2 ⟨rfl, ho2, hb2⟩; have HO2 := Lib.hid ho2; have HB2 := Lib.hid hb2; clear ho2 hb2)
        | (go_at_call 82; have h82 := HO2.out; rw [← List.length_mergeSort (le := fun x y : Int => decide (x ≤ y)) (picks ns v rows)] at h82; have h82' := compact82 h82; rw [List.length_mergeSort] at h82'; refine h82'.mono ?_; rintro e w3 ⟨v3, rfl, ho3, hb3⟩; have HO3 := Lib.hid ho3; have HB3 := Lib.hid hb3; clear h82 h82' ho3 hb3))
      go_ret
      obtain ⟨hc1, hc2⟩ := icompact_sorted (picks ns v rows)
      have ho3 := HO3.out
      have hcl : (compact ((picks ns v rows).mergeSort fun x y => decide (x ≤ y))).length ≤ 100000 := by
        have h1 := HPL.out
        unfold compact compactUpTo
        rw [List.length_map]
        refine Nat.le_trans (List.length_filter_le _ _) ?_
        rw [List.length_range]
        simp [List.length_mergeSort]
        exact h1
      have hsz := HB1.out.size
      have hz1 := HZ1.out
      rcases ho3.2 with ⟨rfl, h0⟩ | ⟨g, cap, cur, rfl, hg, hh, hnc, hcm, hcs, ht⟩
      · refine ⟨none, _, 0, by (rw [h0]; rfl), by (rw [h0]; exact Nat.le_refl _), hcl, .inl h0, ?_, hc1, hc2, ?_⟩
        · intro q z hq
          rw [List.length_eq_zero_iff.1 h0] at hq
          cases hq
        · exact (HB1.out.trans ((HB.out.mono (by omega)).trans ((HB2.out.mono (by omega)).trans (HB3.out.mono (by omega)))))
      · refine ⟨_, _, cap, rfl, hnc, hcl, .inr ⟨g, rfl⟩, ?_, hc1, hc2, ?_⟩
        · intro q z hq
          refine ⟨⟨g, 0, none⟩, rfl, ?_⟩
          rw [Go.Proofs.YtljfknneijmfoaaW.PrintWords.add_at, cell_of_row _ g _ cur 3 (0, 0) hh]
          have hql : q < (compact ((picks ns v rows).mergeSort fun x y => decide (x ≤ y))).length := (List.getElem?_eq_some_iff.1 hq).1
          have : (cur.toList.take ((compact ((picks ns v rows).mergeSort fun x y => decide (x ≤ y))).length * 1))[q]? = some (Value.int .i64 z) := by
            rw [ht, List.getElem?_map, hq]
            rfl
          rw [List.getElem?_take_of_lt (by omega), Array.getElem?_toList] at this
          simpa using this
        · exact (HB1.out.trans ((HB.out.mono (by omega)).trans ((HB2.out.mono (by omega)).trans (HB3.out.mono (by omega)))))
end Go.Proofs.Ytljfknneijmfoaa

namespace Go.Proofs.Ytljfknneijmfoaa
open Go.RowKit Go.Maps Go.WideMaps Go.Lib

/-- A number's site. -/
def siteAt (sites : List S) (z : Int) : S := sites.getD z.toNat []

theorem mem_picks {ns : Nat} {v : S} {rows : List (S × List Int)} {z : Int} : z ∈ picks ns v rows ↔ (∃ r ∈ rows, r.1 = v ∧ z ∈ r.2) ∧ 0 ≤ z ∧ z < (ns : Int) := by
  unfold picks
  rw [List.mem_flatMap]
  constructor
  · rintro ⟨r, hr, hz⟩
    by_cases h : r.1 = v
    · rw [if_pos h, List.mem_filter] at hz
      have := hz.2
      simp [isSite] at this
      exact ⟨⟨r, hr, h, hz.1⟩, this⟩
    · rw [if_neg h] at hz
      cases hz
  · rintro ⟨⟨r, hr, h, hz⟩, h0, h1⟩
    refine ⟨r, hr, ?_⟩
    rw [if_pos h, List.mem_filter]
    exact ⟨hz, by simp [isSite, h0, h1]⟩

/-- What the numbers of a variable are. -/
def IsNums (ns : Nat) (v : S) (rows : List (S × List Int)) (zs : List Int) : Prop := Asc zs ∧ ∀ z, z ∈ zs ↔ z ∈ picks ns v rows

set_option maxRecDepth 100000 in
theorem points17 (e : S) (As : Option Addr) (cs : Nat) (Ar : Option Addr) (cr : Nat) (x3 x4 x5 : Value) (rows : List (S × List Int)) (sites : List S) (v : S) (w : World) (hS : StrRow w As sites) (hR : SetRow w Ar rows) (hn : rows.length ≤ 100000)
    (hs : ∀ j, (picks sites.length v (rows.take j)).length ≤ 100000) (hl : ∀ r ∈ rows, r.2.length ≤ 100000) :
    Calls Try.prog 17 #[.agg (repV e As sites.length cs Ar rows.length cr x3 x4 x5), .string (U v)] w fun e w' => ∃ v' zs, e = .returned v' ∧ IsNums sites.length v rows zs ∧
      w'.ownsRow w.heap.size 9 1 v' (zs.map (siteAt sites)).length ((zs.map (siteAt sites)).map encStr) ∧ Below w.heap.size w w' := by
  obtain ⟨i9, hi9, hz90, hz91, hz92⟩ := info_parts info9
  have HR := Lib.hid hR
  have HS := Lib.hid hs
  have HL := Lib.hid hl
  have HSI := Lib.hid hS
  clear hR hs hl hS
  unfold repV
  go_enter Try.func17, Try.ntmps17
  go_upto_region 1 with (fail)
  obtain ⟨w1, hw1⟩ : ∃ w1, w1 = w.alloc (.cells #[.string (U e), .slice As sites.length cs, .slice Ar rows.length cr, x3, x4, x5] 32) := ⟨_, rfl⟩
  rw [← hw1]
  have hb1 : Below w.heap.size w w1 := by rw [hw1]; exact (Below.refl _ w).alloc (Nat.le_refl _) _
  have hz1 : w1.heap.size = w.heap.size + 1 := by rw [hw1]; exact World.size_alloc _ _
  have hc1 : w1.heap[w.heap.size]? = some (.cells #[.string (U e), .slice As sites.length cs, .slice Ar rows.length cr, x3, x4, x5] 32) := by rw [hw1]; exact block_new _ _
  have k0 := cell_of_block (j := 0) hc1 rfl
  have k1 := cell_of_block (j := 1) hc1 rfl
  have k2 := cell_of_block (j := 2) hc1 rfl
  have k3 := cell_of_block (j := 3) hc1 rfl
  have k4 := cell_of_block (j := 4) hc1 rfl
  have k5 := cell_of_block (j := 5) hc1 rfl
  have HB1 := Lib.hid hb1
  have HZ1 := Lib.hid hz1
  have HC1 := Lib.hid hc1
  have H52 := Lib.hid (collect52 e As sites.length cs Ar cr x3 x4 x5 rows v w1 (HR.out.below hb1 (Nat.le_refl _)) hn HS.out HL.out)
  clear hb1 hz1 hc1 hw1
  go_wp2_with (first
    | (go_at_call 52; refine H52.out.mono ?_; rintro ee w2 ⟨A2, zs, c2, rfl, hzc, hzl, _, hI, hA, hM, hB2⟩; have HI := Lib.hid hI; have HA := Lib.hid hA; have HM := Lib.hid hM; have HB2 := Lib.hid hB2; clear hI hA hM hB2))
  clear k0 k1 k2 k3 k4 k5
  obtain ⟨ws, hws⟩ : ∃ ws, ws = w1.heap.size := ⟨_, rfl⟩
  go_loopw [4, 11] (fun s4 i wr => ∃ (k : Nat) (A4 : Option Addr) (c4 : Nat), k ≤ zs.length ∧ i = .int .i64 k ∧ s4 = .slice A4 k c4 ∧ wr.ownsRow w2.heap.size 9 1 (.slice A4 k c4) k (((zs.take k).map (siteAt sites)).map encStr) ∧ Below w2.heap.size w2 wr) (fun _ i _ => zs.length - (intOf i).toNat)
  case atStart =>
    refine ⟨0, none, 0, Nat.zero_le _, rfl, rfl, ?_, Below.refl _ _⟩
    simpa using World.ownsRow_nil w2 w2.heap.size 9 1
  case round =>
    obtain ⟨k, A4, c4, hk, rfl, rfl, hown, hB⟩ := hrel
    have HOWN := Lib.hid hown
    have HB := Lib.hid hB
    clear hown hB
    by_cases hlt : k < zs.length
    · obtain ⟨z, hz⟩ : ∃ z, zs[k]? = some z := ⟨_, List.getElem?_eq_getElem hlt⟩
      obtain ⟨az, rfl, hcz⟩ := (HI.out.below HB.out (Nat.le_refl _)) k z hz
      have hzm := mem_picks.1 ((HM.out z).1 (List.mem_of_getElem? hz))
      obtain ⟨_, hz0, hz1⟩ := hzm
      obtain ⟨n, rfl⟩ : ∃ n : Nat, z = (n : Int) := ⟨z.toNat, by omega⟩
      have hnl : n < sites.length := by omega
      obtain ⟨asx, rfl, hcs⟩ := HSI.out n _ (List.getElem?_eq_getElem hnl)
      have hcs1 := (HB1.out.cell (World.block_lt_of_cell? w _ hcs)).trans hcs
      have hcs2 := (HB2.out.cell (World.block_lt_of_cell? w1 _ hcs1)).trans hcs1
      have hcs3 := (HB.out.cell (World.block_lt_of_cell? w2 _ hcs2)).trans hcs2
      have hkb : k ≤ 1000000 := by omega
      have hs2 := HB2.out.size
      have hs3 := HB.out.size
      have hs1 := HZ1.out
      have hc1 := cell_of_block (j := 1) (((HB.out.block w.heap.size (by omega)).trans ((HB2.out.block w.heap.size (by omega)))).trans HC1.out) rfl
      obtain ⟨st, hst⟩ : ∃ st, st = sites[n] := ⟨_, rfl⟩
      rw [← hst] at hcs3
      have HST := Lib.hid hst
      have HZ := Lib.hid hz
      clear hcs hcs1 hcs2 hst hz hs1 hs2 hs3
      go_wp2_with (first
        | (at_builtin; refine wpList_append_lies _ (by rfl) _ _ _ (by rfl) w2.heap.size 9 i9 _ 1 16 Try.underlying22 hi9 hz90 hz91 hz92 rfl (by omega) (.slice A4 k c4) _ _ (by rfl) (HOWN.out.alloc _) ⟨wr.heap.size, 0, none⟩ 1 1 [.string (U st)] (by rfl) (by rfl) (World.news_of_block (cs := #[.string (U st)]) (t := 9) (fr := (0, 0)) (heap_alloc_new wr _)) (by simp [Value.oneCell']) (by omega) (by unfold maxLen; omega) (by omega) (by have := HB.out.size; simp; omega) (wr.heap.size + 1) (by simp) ?_; intro gg cap' w3 hown3 hgrow hat hlt3; have HO3 := Lib.hid hown3; have HG3 := Lib.hid hgrow; clear hown3 hgrow hat hlt3))
      go_roundw
      case measure => simp [intOf]; omega
      case rel =>
        refine ⟨k + 1, some ⟨gg, 0, none⟩, cap', hlt, by go_num, rfl, ?_, ?_⟩
        · have h3 := HO3.out
          have he : ((zs.take (k + 1)).map (siteAt sites)).map encStr = ((zs.take k).map (siteAt sites)).map encStr ++ [.string (U st)] := by
            rw [List.take_add_one, HZ.out, HST.out]
            simp [siteAt, List.getD_eq_getElem?_getD, List.getElem?_eq_getElem hnl, enc_U]
          rw [he]
          exact h3
        · have hb := HB.out.alloc HB.out.size (.cells #[.string (U st)] 9)
          exact hb.grown HG3.out hb.size (fun q hq => (HOWN.out.lt q hq).1)
    · have hke : k = zs.length := by omega
      subst hke
      rw [List.take_length] at HOWN
      go_wp2_with fail
      go_ret
      have hs1 := HB1.out.size
      have hs2 := HB2.out.size
      refine ⟨_, zs, rfl, ⟨HA.out, HM.out⟩, ?_, HB1.out.trans ((HB2.out.mono (by omega)).trans (HB.out.mono (by omega)))⟩
      have := own_base HOWN.out (base' := w.heap.size) (by omega)
      simpa using this
end Go.Proofs.Ytljfknneijmfoaa

namespace Go.Proofs.Ytljfknneijmfoaa
open Go.RowKit Go.Maps Go.WideMaps Go.Lib

theorem contains53 {w : World} {A : Option Addr} {c : Nat} {zs : List Int} (hI : IntRow w A zs) (hA : zs.length = 0 ∨ ∃ g, A = some ⟨g, 0, none⟩) (hn : zs.length ≤ 1000000) (x : Int) :
    Calls Try.prog 53 #[.slice A zs.length c, .int .i64 x] w fun e w' => e = .returned (.bool (zs.contains x)) ∧ w' = w := by
  rcases hA with h0 | ⟨g, rfl⟩
  · rw [h0]
    rw [List.length_eq_zero_iff.1 h0]
    exact Try.slices_Contains_int_empty A c x w
  · have := Try.slices_Contains_int g 0 zs.length c zs x w (Nat.le_refl _) (by omega) (by
      intro j hj
      obtain ⟨ad, ea, hc⟩ := hI j _ (List.getElem?_eq_getElem hj)
      cases ea
      rw [Go.Proofs.YtljfknneijmfoaaW.PrintWords.add_at] at hc
      rw [hc]
      simp [List.getD_eq_getElem?_getD, List.getElem?_eq_getElem hj])
    simpa using this

set_option maxRecDepth 100000 in
theorem alias16 (e : S) (As : Option Addr) (ns cs : Nat) (Ar : Option Addr) (cr : Nat) (x3 x4 x5 : Value) (rows : List (S × List Int)) (a b : S) (w : World) (hR : SetRow w Ar rows) (hn : rows.length ≤ 100000)
    (hsa : ∀ j, (picks ns a (rows.take j)).length ≤ 100000) (hsb : ∀ j, (picks ns b (rows.take j)).length ≤ 100000) (hl : ∀ r ∈ rows, r.2.length ≤ 100000) :
    Calls Try.prog 16 #[.agg (repV e As ns cs Ar rows.length cr x3 x4 x5), .string (U a), .string (U b)] w fun e w' => ∃ t, e = .returned (.bool t) ∧ (t = true ↔ ∃ z, z ∈ picks ns a rows ∧ z ∈ picks ns b rows) ∧ Below w.heap.size w w' := by
  have HR := Lib.hid hR
  have HSA := Lib.hid hsa
  have HSB := Lib.hid hsb
  have HL := Lib.hid hl
  clear hR hsa hsb hl
  unfold repV
  go_enter Try.func16, Try.ntmps16
  go_wp2
  refine wp_scope_pass 0 (fun a' w' => ∃ (u0 u1 u2 u3 u4 u5 u6 u7 u8 u9 u10 u11 u12 u13 u14 u15 u16 u17 u18 u19 u20 u21 u22 u23 u24 : Value), a' = { tmps := #[u0, u1, u2, u3, u4, u5, u6, u7, u8, u9, u10, u11, u12, u13, u14, u15, u16, u17, u18, u19, u20, u21, u22, u23, u24], defers := [] } ∧ (∃ z, z ∈ picks ns a rows ∧ z ∈ picks ns b rows) ∧ Below w.heap.size w w') (fun _ _ => 0) rfl ?_ ?_
  · rintro a' wr ⟨u0, u1, u2, u3, u4, u5, u6, u7, u8, u9, u10, u11, u12, u13, u14, u15, u16, u17, u18, u19, u20, u21, u22, u23, u24, rfl, hz, hB⟩ J' hJ'
    have HJ' := Lib.hid hJ'
    have HZ := Lib.hid hz
    have HB := Lib.hid hB
    clear hJ' hz hB
    go_wp2_with fail
    simp only [Exit.jump]
    go_ret
    exact ⟨true, rfl, ⟨fun _ => HZ.out, fun _ => rfl⟩, HB.out⟩
  · intro J' hJ' PASS
    have HJ' := Lib.hid hJ'
    clear hJ' PASS
    obtain ⟨w1, hw1⟩ : ∃ w1, w1 = w.alloc (.cells #[.string (U e), .slice As ns cs, .slice Ar rows.length cr, x3, x4, x5] 32) := ⟨_, rfl⟩
    go_upto_region 1 with (fail)
    rw [← hw1]
    have hb1 : Below w.heap.size w w1 := by rw [hw1]; exact (Below.refl _ w).alloc (Nat.le_refl _) _
    have hz1 : w1.heap.size = w.heap.size + 1 := by rw [hw1]; exact World.size_alloc _ _
    have hc1 : w1.heap[w.heap.size]? = some (.cells #[.string (U e), .slice As ns cs, .slice Ar rows.length cr, x3, x4, x5] 32) := by rw [hw1]; exact block_new _ _
    have k0 := cell_of_block (j := 0) hc1 rfl
    have k1 := cell_of_block (j := 1) hc1 rfl
    have k2 := cell_of_block (j := 2) hc1 rfl
    have k3 := cell_of_block (j := 3) hc1 rfl
    have k4 := cell_of_block (j := 4) hc1 rfl
    have k5 := cell_of_block (j := 5) hc1 rfl
    have HB1 := Lib.hid hb1
    have HZ1 := Lib.hid hz1
    have HC1 := Lib.hid hc1
    have HR1 := Lib.hid (HR.out.below hb1 (Nat.le_refl _))
    clear hb1 hz1 hc1 hw1
    go_upto_region 2 with (first
      | (go_at_call 52; refine (collect52 e As ns cs Ar cr x3 x4 x5 rows b w1 HR1.out hn HSB.out HL.out).mono ?_; rintro ee w2 ⟨A2, zb, c2, rfl, hzc, hzl, hA2, hI, hA, hM, hB2⟩; have HI := Lib.hid hI; have HA := Lib.hid hA; have HM := Lib.hid hM; have HB2 := Lib.hid hB2; have HA2 := Lib.hid hA2; clear hI hA hM hB2 hA2))
    clear k0 k1 k2 k3 k4 k5
    have hcc := (HB2.out.block w.heap.size (by have := HZ1.out; omega)).trans HC1.out
    have k0 := cell_of_block (j := 0) hcc rfl
    have k1 := cell_of_block (j := 1) hcc rfl
    have k2 := cell_of_block (j := 2) hcc rfl
    have k3 := cell_of_block (j := 3) hcc rfl
    have k4 := cell_of_block (j := 4) hcc rfl
    have k5 := cell_of_block (j := 5) hcc rfl
    clear hcc
    go_wp2_with (first
      | (go_at_call 52; refine (collect52 e As ns cs Ar cr x3 x4 x5 rows a w2 (HR1.out.below HB2.out (Nat.le_refl _)) hn HSA.out HL.out).mono ?_; rintro ee w3 ⟨A3, za, c3, rfl, hzc3, hzl3, hA3, hI, hA, hM, hB3⟩; have HI3 := Lib.hid hI; have HA3 := Lib.hid hA; have HM3 := Lib.hid hM; have HB3 := Lib.hid hB3; clear hI hA hM hB3 hA3))
    clear k0 k1 k2 k3 k4 k5
    have hs1 := HB1.out.size
    have hs2 := HB2.out.size
    have hs3 := HB3.out.size
    have HBW := Lib.hid (HB1.out.trans ((HB2.out.mono hs1).trans (HB3.out.mono (Nat.le_trans hs1 hs2))))
    have HI2 := Lib.hid (HI.out.below HB3.out (Nat.le_refl _))
    clear hs1 hs2 hs3
    go_loopw [17] (fun i wr => ∃ k : Nat, k ≤ za.length ∧ i = .int .i64 k ∧ wr = w3 ∧ ∀ (j : Nat) (z : Int), j < k → za[j]? = some z → z ∉ zb) (fun i _ => za.length - (intOf i).toNat)
    case atStart => exact ⟨0, Nat.zero_le _, rfl, by first | rfl | trivial, fun j z hj => absurd hj (Nat.not_lt_zero _)⟩
    case round =>
      obtain ⟨k, hk, rfl, rfl, hno⟩ := hrel
      have HNO := Lib.hid hno
      clear hno
      by_cases hlt : k < za.length
      · obtain ⟨z, hz⟩ : ∃ z, za[k]? = some z := ⟨_, List.getElem?_eq_getElem hlt⟩
        obtain ⟨az, rfl, hcz⟩ := HI3.out k z hz
        have HZ := Lib.hid hz
        have hkb : k ≤ 1000000 := by omega
        clear hz
        by_cases hin : z ∈ zb
        · have hct : zb.contains z = true := by simpa using hin
          have HIN := Lib.hid hin
          have HCT := Lib.hid hct
          clear hin hct
          go_wp2_with (first
            | (go_at_call 53; refine (contains53 HI2.out HA2.out (by omega) z).mono ?_; rintro ee w4 ⟨rfl, rfl⟩; rw [HCT.out]))
          go_step3
          simp only [Exit.inBlock, Exit.then]
          refine ⟨rfl, HJ'.out _ _ ⟨_, _, _, _, _, _, _, _, _, _, _, _, _, _, _, _, _, _, _, _, _, _, _, _, _, rfl, ⟨z, (HM3.out z).1 (List.mem_of_getElem? HZ.out), (HM.out z).1 HIN.out⟩, HBW.out⟩⟩
        · have hct : zb.contains z = false := by simpa using hin
          have HIN := Lib.hid hin
          have HCT := Lib.hid hct
          clear hin hct
          go_wp2_with (first
            | (go_at_call 53; refine (contains53 HI2.out HA2.out (by omega) z).mono ?_; rintro ee w4 ⟨rfl, rfl⟩; rw [HCT.out]))
          go_roundw
          case measure => simp [intOf]; omega
          case rel =>
            refine ⟨k + 1, hlt, by go_num, by first | rfl | trivial, fun j y hj hy => ?_⟩
            by_cases hjk : j = k
            · subst hjk
              rw [HZ.out] at hy
              cases hy
              exact HIN.out
            · exact HNO.out j y (by omega) hy
      · have hke : k = za.length := by omega
        subst hke
        go_wp2_with fail
        simp only [Exit.jump]
        go_ret
        refine ⟨false, rfl, ⟨(fun h => nomatch h), fun ⟨z, hza, hzb⟩ => ?_⟩, HBW.out⟩
        obtain ⟨j, hj⟩ := List.mem_iff_getElem?.1 ((HM3.out z).2 hza)
        exact absurd ((HM.out z).2 hzb) (HNO.out j z (List.getElem?_eq_some_iff.1 hj).1 hj)
end Go.Proofs.Ytljfknneijmfoaa

namespace Go.Proofs.Ytljfknneijmfoaa
open Go.RowKit Go.Maps Go.WideMaps Go.Lib

/-- What a shortest way's answer is. -/
def WayAns (base : Nat) (w' : World) (E : Es) (f t : S) (v : Value) (c : Int) : Prop :=
  (c = 0 ∧ ∃ ps d, Geo E t d ps ∧ ps.head? = some f ∧ w'.ownsRow base 9 1 v ps.length (ps.map encStr)) ∨ (c = 11 ∧ v = .slice none 0 0 ∧ ∀ d, ¬ Dist (rev E) [t] f d)

theorem WayAns.lower {base base' : Nat} {w' : World} {E : Es} {f t : S} {v : Value} {c : Int} (h : WayAns base w' E f t v c) (hb : base' ≤ base) : WayAns base' w' E f t v c := by
  rcases h with ⟨h0, ps, d, h1, h2, h3⟩ | h
  · exact .inl ⟨h0, ps, d, h1, h2, own_base h3 hb⟩
  · exact .inr h

theorem path27' (A : Option Addr) (cap : Nat) (es : List (S × Int × S)) (f t : S) (w : World) (hE : EdgeRow w A es) (hn : es.length ≤ 100000) (hc : es.length ≤ cap) (hs : ∀ e ∈ es, e.1.length ≤ 100000 ∧ e.2.2.length ≤ 100000)
    (hf : f.length ≤ 100000) (ht : t.length ≤ 100000) :
    Calls Try.prog 27 #[.slice A es.length cap, .string (U f), .string (U t)] w fun e w' => ∃ v c, e = .returned (.tuple #[v, .int .i64 c]) ∧ WayAns w.heap.size w' (ends es) f t v c ∧ Below w.heap.size w w' := by
  refine (path27 A cap es f t w hE hn hc hs hf ht).mono ?_
  rintro e w' ⟨hB, ⟨v, ps, d, rfl, hg, hh, ho⟩ | ⟨rfl, hno⟩⟩
  · exact ⟨v, 0, rfl, .inl ⟨rfl, ps, d, hg, hh, ho⟩, hB⟩
  · exact ⟨_, 11, rfl, .inr ⟨rfl, rfl, hno⟩, hB⟩

set_option maxRecDepth 100000 in
theorem way32 (f : S) (As : Option Addr) (ns cs : Nat) (Ar : Option Addr) (nr cr : Nat) (Ae : Option Addr) (ce : Nat) (x4 x5 : Value) (es : List (S × Int × S)) (t : S) (w : World) (hE : EdgeRow w Ae es) (hn : es.length ≤ 100000) (hc : es.length ≤ ce)
    (hs : ∀ e ∈ es, e.1.length ≤ 100000 ∧ e.2.2.length ≤ 100000) (hf : f.length ≤ 100000) (ht : t.length ≤ 100000) :
    Calls Try.prog 32 #[.agg (repV f As ns cs Ar nr cr (.slice Ae es.length ce) x4 x5), .string (U t)] w fun e w' => ∃ v c, e = .returned (.tuple #[v, .int .i64 c]) ∧ WayAns w.heap.size w' (ends es) f t v c ∧ Below w.heap.size w w' := by
  have HE := Lib.hid hE
  have HS := Lib.hid hs
  clear hE hs
  unfold repV
  go_enter Try.func32, Try.ntmps32
  go_upto_region 1 with (fail)
  obtain ⟨w1, hw1⟩ : ∃ w1, w1 = w.alloc (.cells #[.string (U f), .slice As ns cs, .slice Ar nr cr, .slice Ae es.length ce, x4, x5] 32) := ⟨_, rfl⟩
  rw [← hw1]
  have hb1 : Below w.heap.size w w1 := by rw [hw1]; exact (Below.refl _ w).alloc (Nat.le_refl _) _
  have hz1 : w1.heap.size = w.heap.size + 1 := by rw [hw1]; exact World.size_alloc _ _
  have hc1 : w1.heap[w.heap.size]? = some (.cells #[.string (U f), .slice As ns cs, .slice Ar nr cr, .slice Ae es.length ce, x4, x5] 32) := by rw [hw1]; exact block_new _ _
  have k0 := cell_of_block (j := 0) hc1 rfl
  have k3 := cell_of_block (j := 3) hc1 rfl
  have HB1 := Lib.hid hb1
  have HZ1 := Lib.hid hz1
  have H27 := Lib.hid (path27' Ae ce es f t w1 (HE.out.below hb1 (Nat.le_refl _)) hn hc HS.out hf ht)
  clear hb1 hz1 hc1 hw1
  go_wp2_with (first
    | (go_at_call 27; refine H27.out.mono ?_; rintro ee w2 ⟨v, c, rfl, ha, hB2⟩; have HA := Lib.hid ha; have HB2 := Lib.hid hB2; clear ha hB2))
  go_ret2
  exact ⟨v, c, rfl, HA.out.lower HB1.out.size, HB1.out.trans (HB2.out.mono HB1.out.size)⟩

theorem B_append (a b : ByteArray) : B (a ++ b) = B a ++ B b := by
  unfold B
  simp [ByteArray.data_append]

theorem U_append (a b : S) : U a ++ U b = U (a ++ b) := by
  apply B_inj
  rw [B_append]
  rfl

/-- The name of what leaves a method thrown. -/
def excOf (k : S) : S := k ++ [35, 101, 120, 99]

set_option maxRecDepth 100000 in
theorem throws22 (e : S) (As : Option Addr) (cs : Nat) (Ar : Option Addr) (cr : Nat) (x3 x4 x5 : Value) (rows : List (S × List Int)) (sites : List S) (v : S) (w : World) (hS : StrRow w As sites) (hR : SetRow w Ar rows) (hn : rows.length ≤ 100000)
    (hs : ∀ j, (picks sites.length (excOf v) (rows.take j)).length ≤ 100000) (hl : ∀ r ∈ rows, r.2.length ≤ 100000) (hv : v.length ≤ 100000) :
    Calls Try.prog 22 #[.agg (repV e As sites.length cs Ar rows.length cr x3 x4 x5), .string (U v)] w fun ee w' => ∃ v' zs, ee = .returned v' ∧ IsNums sites.length (excOf v) rows zs ∧
      w'.ownsRow w.heap.size 9 1 v' (zs.map (siteAt sites)).length ((zs.map (siteAt sites)).map encStr) ∧ Below w.heap.size w w' := by
  unfold repV
  have hua : U v ++ (⟨#[35, 101, 120, 99]⟩ : ByteArray) = U (excOf v) := U_append v [35, 101, 120, 99]
  have hsz : (U v).size ≤ 100000 := by rw [size_U]; exact hv
  have HR := Lib.hid hR
  have HS := Lib.hid hs
  have HL := Lib.hid hl
  have HSI := Lib.hid hS
  clear hR hs hl hS
  go_enter Try.func22, Try.ntmps22
  go_upto_region 1 with (fail)
  obtain ⟨w1, hw1⟩ : ∃ w1, w1 = w.alloc (.cells #[.string (U e), .slice As sites.length cs, .slice Ar rows.length cr, x3, x4, x5] 32) := ⟨_, rfl⟩
  rw [← hw1]
  have hb1 : Below w.heap.size w w1 := by rw [hw1]; exact (Below.refl _ w).alloc (Nat.le_refl _) _
  have hc1 : w1.heap[w.heap.size]? = some (.cells #[.string (U e), .slice As sites.length cs, .slice Ar rows.length cr, x3, x4, x5] 32) := by rw [hw1]; exact block_new _ _
  have k0 := cell_of_block (j := 0) hc1 rfl
  have k1 := cell_of_block (j := 1) hc1 rfl
  have k2 := cell_of_block (j := 2) hc1 rfl
  have k3 := cell_of_block (j := 3) hc1 rfl
  have k4 := cell_of_block (j := 4) hc1 rfl
  have k5 := cell_of_block (j := 5) hc1 rfl
  have HB1 := Lib.hid hb1
  have H17 := Lib.hid (points17 e As cs Ar cr x3 x4 x5 rows sites (excOf v) w1 (HSI.out.below hb1 (Nat.le_refl _)) (HR.out.below hb1 (Nat.le_refl _)) hn HS.out HL.out)
  clear hb1 hc1 hw1
  go_wp2_with (first
    | (go_at_call 17; refine H17.out.mono ?_; rintro ee w2 ⟨v', zs, rfl, hz, ho, hB2⟩; have HZ := Lib.hid hz; have HO := Lib.hid ho; have HB2 := Lib.hid hB2; clear hz ho hB2))
  go_ret
  exact ⟨v', zs, rfl, HZ.out, own_base HO.out HB1.out.size, HB1.out.trans (HB2.out.mono HB1.out.size)⟩
end Go.Proofs.Ytljfknneijmfoaa
