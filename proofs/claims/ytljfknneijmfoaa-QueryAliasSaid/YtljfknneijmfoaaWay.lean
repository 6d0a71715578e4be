import Derived.Test.YtljfknneijmfoaaAlias
namespace Go.Proofs.Ytljfknneijmfoaa
open Go.RowKit Go.Maps Go.WideMaps Go.Lib

/-- What a shortest way's answer is. -/
def WayAns (base : Nat) (w' : World) (E : Es) (f t : S) (v : Value) (c : Int) : Prop :=
  (c = 0 ∧ ∃ ps d, Geo E t d ps ∧ ps.head? = some f ∧ w'.ownsRow base 9 1 v ps.length (ps.map encStr)) ∨ (c = 11 ∧ v = .slice none 0 0 ∧ ∀ d, ¬ Dist (rev E) [t] f d)

theorem WayAns.lower {base base' : Nat} {w' : World} {E : Es} {f t : S} {v : Value} {c : Int} (h : WayAns base w' E f t v c) (hb : base' ≤ base) : WayAns base' w' E f t v c := by
  rcases h with ⟨h0, ps, d, h1, h2, h3⟩ | h
  · exact .inl ⟨h0, ps, d, h1, h2, own_base h3 hb⟩
  · exact .inr h

theorem path27' (A : Option Addr) (cap : Nat) (es : List (S × Int × S)) (f t : S) (w : World) (hE : EdgeRow w A es) (hn : es.length ≤ 100000) (hc : es.length ≤ cap) (hs : ∀ e ∈ es, e.1.length ≤ 100000 ∧ e.2.2.length ≤ 100000)
    (hf : f.length ≤ 100000) (ht : t.length ≤ 100000) :
    Calls Try.prog 27 #[.slice A es.length cap, .string (U f), .string (U t)] w fun e w' => ∃ v c, e = .returned (.tuple #[v, .int .i64 c]) ∧ WayAns w.heap.size w' (ends es) f t v c ∧ Below w.heap.size w w' := by
  refine (path27 A cap es f t w hE hn hc hs hf ht).mono ?_
  rintro e w' ⟨hB, ⟨v, ps, d, rfl, hg, hh, ho⟩ | ⟨rfl, hno⟩⟩
  · exact ⟨v, 0, rfl, .inl ⟨rfl, ps, d, hg, hh, ho⟩, hB⟩
  · exact ⟨_, 11, rfl, .inr ⟨rfl, rfl, hno⟩, hB⟩

set_option maxRecDepth 100000 in
theorem way32 (f : S) (As : Option Addr) (ns cs : Nat) (Ar : Option Addr) (nr cr : Nat) (Ae : Option Addr) (ce : Nat) (x4 x5 : Value) (es : List (S × Int × S)) (t : S) (w : World) (hE : EdgeRow w Ae es) (hn : es.length ≤ 100000) (hc : es.length ≤ ce)
    (hs : ∀ e ∈ es, e.1.length ≤ 100000 ∧ e.2.2.length ≤ 100000) (hf : f.length ≤ 100000) (ht : t.length ≤ 100000) :
    Calls Try.prog 32 #[.agg (repV f As ns cs Ar nr cr (.slice Ae es.length ce) x4 x5), .string (U t)] w fun e w' => ∃ v c, e = .returned (.tuple #[v, .int .i64 c]) ∧ WayAns w.heap.size w' (ends es) f t v c ∧ Below w.heap.size w w' := by
  have HE := Lib.hid hE
  have HS := Lib.hid hs
  clear hE hs
  unfold repV
  go_enter Try.func32, Try.ntmps32
  go_upto_region 1 with (fail)
  obtain ⟨w1, hw1⟩ : ∃ w1, w1 = w.alloc (.cells #[.string (U f), .slice As ns cs, .slice Ar nr cr, .slice Ae es.length ce, x4, x5] 32) := ⟨_, rfl⟩
  rw [← hw1]
  have hb1 : Below w.heap.size w w1 := by rw [hw1]; exact (Below.refl _ w).alloc (Nat.le_refl _) _
  have hz1 : w1.heap.size = w.heap.size + 1 := by rw [hw1]; exact World.size_alloc _ _
  have hc1 : w1.heap[w.heap.size]? = some (.cells #[.string (U f), .slice As ns cs, .slice Ar nr cr, .slice Ae es.length ce, x4, x5] 32) := by rw [hw1]; exact block_new _ _
  have k0 := cell_of_block (j := 0) hc1 rfl
  have k3 := cell_of_block (j := 3) hc1 rfl
  have HB1 := Lib.hid hb1
  have HZ1 := Lib.hid hz1
  have H27 := Lib.hid (path27' Ae ce es f t w1 (HE.out.below hb1 (Nat.le_refl _)) hn hc HS.out hf ht)
  clear hb1 hz1 hc1 hw1
  go_wp2_with (first
    | (go_at_call 27; refine H27.out.mono ?_; rintro ee w2 ⟨v, c, rfl, ha, hB2⟩; have HA := Lib.hid ha; have HB2 := Lib.hid hB2; clear ha hB2))
  go_ret2
  exact ⟨v, c, rfl, HA.out.lower HB1.out.size, HB1.out.trans (HB2.out.mono HB1.out.size)⟩

theorem B_append (a b : ByteArray) : B (a ++ b) = B a ++ B b := by
  unfold B
  simp [ByteArray.data_append]

theorem U_append (a b : S) : U a ++ U b = U (a ++ b) := by
  apply B_inj
  rw [B_append]
  rfl

/-- The name of what leaves a method thrown. -/
def excOf (k : S) : S := k ++ [35, 101, 120, 99]

set_option maxRecDepth 100000 in
theorem throws22 (e : S) (As : Option Addr) (cs : Nat) (Ar : Option Addr) (cr : Nat) (x3 x4 x5 : Value) (rows : List (S × List Int)) (sites : List S) (v : S) (w : World) (hS : StrRow w As sites) (hR : SetRow w Ar rows) (hn : rows.length ≤ 100000)
    (hs : ∀ j, (picks sites.length (excOf v) (rows.take j)).length ≤ 100000) (hl : ∀ r ∈ rows, r.2.length ≤ 100000) (hv : v.length ≤ 100000) :
    Calls Try.prog 22 #[.agg (repV e As sites.length cs Ar rows.length cr x3 x4 x5), .string (U v)] w fun ee w' => ∃ v' zs, ee = .returned v' ∧ IsNums sites.length (excOf v) rows zs ∧
      w'.ownsRow w.heap.size 9 1 v' (zs.map (siteAt sites)).length ((zs.map (siteAt sites)).map encStr) ∧ Below w.heap.size w w' := by
  unfold repV
  have hua : U v ++ (⟨#[35, 101, 120, 99]⟩ : ByteArray) = U (excOf v) := U_append v [35, 101, 120, 99]
  have hsz : (U v).size ≤ 100000 := by rw [size_U]; exact hv
  have HR := Lib.hid hR
  have HS := Lib.hid hs
  have HL := Lib.hid hl
  have HSI := Lib.hid hS
  clear hR hs hl hS
  go_enter Try.func22, Try.ntmps22
  go_upto_region 1 with (fail)
  obtain ⟨w1, hw1⟩ : ∃ w1, w1 = w.alloc (.cells #[.string (U e), .slice As sites.length cs, .slice Ar rows.length cr, x3, x4, x5] 32) := ⟨_, rfl⟩
  rw [← hw1]
  have hb1 : Below w.heap.size w w1 := by rw [hw1]; exact (Below.refl _ w).alloc (Nat.le_refl _) _
  have hc1 : w1.heap[w.heap.size]? = some (.cells #[.string (U e), .slice As sites.length cs, .slice Ar rows.length cr, x3, x4, x5] 32) := by rw [hw1]; exact block_new _ _
  have k0 := cell_of_block (j := 0) hc1 rfl
  have k1 := cell_of_block (j := 1) hc1 rfl
  have k2 := cell_of_block (j := 2) hc1 rfl
  have k3 := cell_of_block (j := 3) hc1 rfl
  have k4 := cell_of_block (j := 4) hc1 rfl
  have k5 := cell_of_block (j := 5) hc1 rfl
  have HB1 := Lib.hid hb1
  have H17 := Lib.hid (points17 e As cs Ar cr x3 x4 x5 rows sites (excOf v) w1 (HSI.out.below hb1 (Nat.le_refl _)) (HR.out.below hb1 (Nat.le_refl _)) hn HS.out HL.out)
  clear hb1 hc1 hw1
  go_wp2_with (first
    | (go_at_call 17; refine H17.out.mono ?_; rintro ee w2 ⟨v', zs, rfl, hz, ho, hB2⟩; have HZ := Lib.hid hz; have HO := Lib.hid ho; have HB2 := Lib.hid hB2; clear hz ho hB2))
  go_ret
  exact ⟨v', zs, rfl, HZ.out, own_base HO.out HB1.out.size, HB1.out.trans (HB2.out.mono HB1.out.size)⟩
end Go.Proofs.Ytljfknneijmfoaa
