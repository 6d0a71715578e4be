import Derived.Test.YtljfknneijmfoaaNums
namespace Go.Proofs.Ytljfknneijmfoaa
open Go.RowKit Go.Maps Go.WideMaps Go.Lib

/-- A number's site. -/
def siteAt (sites : List S) (z : Int) : S := sites.getD z.toNat []

theorem mem_picks {ns : Nat} {v : S} {rows : List (S × List Int)} {z : Int} : z ∈ picks ns v rows ↔ (∃ r ∈ rows, r.1 = v ∧ z ∈ r.2) ∧ 0 ≤ z ∧ z < (ns : Int) := by
  unfold picks
  rw [List.mem_flatMap]
  constructor
  · rintro ⟨r, hr, hz⟩
    by_cases h : r.1 = v
    · rw [if_pos h, List.mem_filter] at hz
      have := hz.2
      simp [isSite] at this
      exact ⟨⟨r, hr, h, hz.1⟩, this⟩
    · rw [if_neg h] at hz
      cases hz
  · rintro ⟨⟨r, hr, h, hz⟩, h0, h1⟩
    refine ⟨r, hr, ?_⟩
    rw [if_pos h, List.mem_filter]
    exact ⟨hz, by simp [isSite, h0, h1]⟩

/-- What the numbers of a variable are. -/
def IsNums (ns : Nat) (v : S) (rows : List (S × List Int)) (zs : List Int) : Prop := Asc zs ∧ ∀ z, z ∈ zs ↔ z ∈ picks ns v rows

set_option maxRecDepth 100000 in
theorem points17 (e : S) (As : Option Addr) (cs : Nat) (Ar : Option Addr) (cr : Nat) (x3 x4 x5 : Value) (rows : List (S × List Int)) (sites : List S) (v : S) (w : World) (hS : StrRow w As sites) (hR : SetRow w Ar rows) (hn : rows.length ≤ 100000)
    (hs : ∀ j, (picks sites.length v (rows.take j)).length ≤ 100000) (hl : ∀ r ∈ rows, r.2.length ≤ 100000) :
    Calls Try.prog 17 #[.agg (repV e As sites.length cs Ar rows.length cr x3 x4 x5), .string (U v)] w fun e w' => ∃ v' zs, e = .returned v' ∧ IsNums sites.length v rows zs ∧
      w'.ownsRow w.heap.size 9 1 v' (zs.map (siteAt sites)).length ((zs.map (siteAt sites)).map encStr) ∧ Below w.heap.size w w' := by
  obtain ⟨i9, hi9, hz90, hz91, hz92⟩ := info_parts info9
  have HR := Lib.hid hR
  have HS := Lib.hid hs
  have HL := Lib.hid hl
  have HSI := Lib.hid hS
  clear hR hs hl hS
  unfold repV
  go_enter Try.func17, Try.ntmps17
  go_upto_region 1 with (fail)
  obtain ⟨w1, hw1⟩ : ∃ w1, w1 = w.alloc (.cells #[.string (U e), .slice As sites.length cs, .slice Ar rows.length cr, x3, x4, x5] 32) := ⟨_, rfl⟩
  rw [← hw1]
  have hb1 : Below w.heap.size w w1 := by rw [hw1]; exact (Below.refl _ w).alloc (Nat.le_refl _) _
  have hz1 : w1.heap.size = w.heap.size + 1 := by rw [hw1]; exact World.size_alloc _ _
  have hc1 : w1.heap[w.heap.size]? = some (.cells #[.string (U e), .slice As sites.length cs, .slice Ar rows.length cr, x3, x4, x5] 32) := by rw [hw1]; exact block_new _ _
  have k0 := cell_of_block (j := 0) hc1 rfl
  have k1 := cell_of_block (j := 1) hc1 rfl
  have k2 := cell_of_block (j := 2) hc1 rfl
  have k3 := cell_of_block (j := 3) hc1 rfl
  have k4 := cell_of_block (j := 4) hc1 rfl
  have k5 := cell_of_block (j := 5) hc1 rfl
  have HB1 := Lib.hid hb1
  have HZ1 := Lib.hid hz1
  have HC1 := Lib.hid hc1
  have H52 := Lib.hid (collect52 e As sites.length cs Ar cr x3 x4 x5 rows v w1 (HR.out.below hb1 (Nat.le_refl _)) hn HS.out HL.out)
  clear hb1 hz1 hc1 hw1
  go_wp2_with (first
    | (go_at_call 52; refine H52.out.mono ?_; rintro ee w2 ⟨A2, zs, c2, rfl, hzc, hzl, _, hI, hA, hM, hB2⟩; have HI := Lib.hid hI; have HA := Lib.hid hA; have HM := Lib.hid hM; have HB2 := Lib.hid hB2; clear hI hA hM hB2))
  clear k0 k1 k2 k3 k4 k5
  obtain ⟨ws, hws⟩ : ∃ ws, ws = w1.heap.size := ⟨_, rfl⟩
  go_loopw [4, 11] (fun s4 i wr => ∃ (k : Nat) (A4 : Option Addr) (c4 : Nat), k ≤ zs.length ∧ i = .int .i64 k ∧ s4 = .slice A4 k c4 ∧ wr.ownsRow w2.heap.size 9 1 (.slice A4 k c4) k (((zs.take k).map (siteAt sites)).map encStr) ∧ Below w2.heap.size w2 wr) (fun _ i _ => zs.length - (intOf i).toNat)
  case atStart =>
    refine ⟨0, none, 0, Nat.zero_le _, rfl, rfl, ?_, Below.refl _ _⟩
    simpa using World.ownsRow_nil w2 w2.heap.size 9 1
  case round =>
    obtain ⟨k, A4, c4, hk, rfl, rfl, hown, hB⟩ := hrel
    have HOWN := Lib.hid hown
    have HB := Lib.hid hB
    clear hown hB
    by_cases hlt : k < zs.length
    · obtain ⟨z, hz⟩ : ∃ z, zs[k]? = some z := ⟨_, List.getElem?_eq_getElem hlt⟩
      obtain ⟨az, rfl, hcz⟩ := (HI.out.below HB.out (Nat.le_refl _)) k z hz
      have hzm := mem_picks.1 ((HM.out z).1 (List.mem_of_getElem? hz))
      obtain ⟨_, hz0, hz1⟩ := hzm
      obtain ⟨n, rfl⟩ : ∃ n : Nat, z = (n : Int) := ⟨z.toNat, by omega⟩
      have hnl : n < sites.length := by omega
      obtain ⟨asx, rfl, hcs⟩ := HSI.out n _ (List.getElem?_eq_getElem hnl)
      have hcs1 := (HB1.out.cell (World.block_lt_of_cell? w _ hcs)).trans hcs
      have hcs2 := (HB2.out.cell (World.block_lt_of_cell? w1 _ hcs1)).trans hcs1
      have hcs3 := (HB.out.cell (World.block_lt_of_cell? w2 _ hcs2)).trans hcs2
      have hkb : k ≤ 1000000 := by omega
      have hs2 := HB2.out.size
      have hs3 := HB.out.size
      have hs1 := HZ1.out
      have hc1 := cell_of_block (j := 1) (((HB.out.block w.heap.size (by omega)).trans ((HB2.out.block w.heap.size (by omega)))).trans HC1.out) rfl
      obtain ⟨st, hst⟩ : ∃ st, st = sites[n] := ⟨_, rfl⟩
      rw [← hst] at hcs3
      have HST := Lib.hid hst
      have HZ := Lib.hid hz
      clear hcs hcs1 hcs2 hst hz hs1 hs2 hs3
      go_wp2_with (first
        | (at_builtin; refine wpList_append_lies _ (by rfl) _ _ _ (by rfl) w2.heap.size 9 i9 _ 1 16 Try.underlying22 hi9 hz90 hz91 hz92 rfl (by omega) (.slice A4 k c4) _ _ (by rfl) (HOWN.out.alloc _) ⟨wr.heap.size, 0, none⟩ 1 1 [.string (U st)] (by rfl) (by rfl) (World.news_of_block (cs := #[.string (U st)]) (t := 9) (fr := (0, 0)) (heap_alloc_new wr _)) (by simp [Value.oneCell']) (by omega) (by unfold maxLen; omega) (by omega) (by have := HB.out.size; simp; omega) (wr.heap.size + 1) (by simp) ?_; intro gg cap' w3 hown3 hgrow hat hlt3; have HO3 := Lib.hid hown3; have HG3 := Lib.hid hgrow; clear hown3 hgrow hat hlt3))
      go_roundw
      case measure => simp [intOf]; omega
      case rel =>
        refine ⟨k + 1, some ⟨gg, 0, none⟩, cap', hlt, by go_num, rfl, ?_, ?_⟩
        · have h3 := HO3.out
          have he : ((zs.take (k + 1)).map (siteAt sites)).map encStr = ((zs.take k).map (siteAt sites)).map encStr ++ [.string (U st)] := by
            rw [List.take_add_one, HZ.out, HST.out]
            simp [siteAt, List.getD_eq_getElem?_getD, List.getElem?_eq_getElem hnl, enc_U]
          rw [he]
          exact h3
        · have hb := HB.out.alloc HB.out.size (.cells #[.string (U st)] 9)
          exact hb.grown HG3.out hb.size (fun q hq => (HOWN.out.lt q hq).1)
    · have hke : k = zs.length := by omega
      subst hke
      rw [List.take_length] at HOWN
      go_wp2_with fail
      go_ret
      have hs1 := HB1.out.size
      have hs2 := HB2.out.size
      refine ⟨_, zs, rfl, ⟨HA.out, HM.out⟩, ?_, HB1.out.trans ((HB2.out.mono (by omega)).trans (HB.out.mono (by omega)))⟩
      have := own_base HOWN.out (base' := w.heap.size) (by omega)
      simpa using this
end Go.Proofs.Ytljfknneijmfoaa
