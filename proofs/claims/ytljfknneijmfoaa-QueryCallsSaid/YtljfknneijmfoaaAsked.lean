import Derived.Test.YtljfknneijmfoaaEdges
namespace Go.Proofs.Ytljfknneijmfoaa
open Go.RowKit Go.Maps Go.WideMaps Go.Lib
open Go.Proofs.YtljfknneijmfoaaW.PrintWords (q_of_own q_slice q_cells add_at)

def isTo (key : S) (e : S × Int × S) : Bool := decide (e.2.2 = key)
def isFrom (key : S) (e : S × Int × S) : Bool := decide (e.1 = key)
def isAt (key : S) (pc : Int) (e : S × Int × S) : Bool := decide (e.1 = key) && decide (e.2.1 = pc)
def isLone (es : List (S × Int × S)) (e : S × Int × S) : Bool := decide ((es.filter (isAt e.1 e.2.1)).length = 1)

theorem cl66 (key ef et : S) (ep : Int) (g : Nat) (W : World) (hk : W.cell? ⟨g, 0, none⟩ = some (.string (U key))) :
    Calls Try.prog 66 #[.agg #[.string (U ef), .int .i64 ep, .string (U et)], .pointer (some ⟨g, 0, none⟩)] W fun ee w' => ee = .returned (.bool (isTo key (ef, ep, et))) ∧ Below W.heap.size W w' := by
  have hlt := World.block_lt_of_cell? W _ hk
  by_cases h : et = key
  · have hb := beq_U_true h
    go_enter Try.func66, Try.ntmps66
    go_wp2
    go_ret
    exact ⟨by simp [isTo], (Below.refl _ W).alloc (Nat.le_refl _) _⟩
  · have hb := beq_U_false h
    go_enter Try.func66, Try.ntmps66
    go_wp2
    go_ret
    exact ⟨by simp [isTo, h], (Below.refl _ W).alloc (Nat.le_refl _) _⟩

theorem cl67 (key ef et : S) (ep : Int) (g : Nat) (W : World) (hk : W.cell? ⟨g, 0, none⟩ = some (.string (U key))) :
    Calls Try.prog 67 #[.agg #[.string (U ef), .int .i64 ep, .string (U et)], .pointer (some ⟨g, 0, none⟩)] W fun ee w' => ee = .returned (.bool (isFrom key (ef, ep, et))) ∧ Below W.heap.size W w' := by
  have hlt := World.block_lt_of_cell? W _ hk
  by_cases h : ef = key
  · have hb := beq_U_true h
    go_enter Try.func67, Try.ntmps67
    go_wp2
    go_ret
    exact ⟨by simp [isFrom], (Below.refl _ W).alloc (Nat.le_refl _) _⟩
  · have hb := beq_U_false h
    go_enter Try.func67, Try.ntmps67
    go_wp2
    go_ret
    exact ⟨by simp [isFrom, h], (Below.refl _ W).alloc (Nat.le_refl _) _⟩

theorem cl68 (key ef et : S) (pc ep : Int) (g d : Nat) (W : World) (hk : W.cell? ⟨g, 0, none⟩ = some (.string (U key))) (hp : W.cell? ⟨d, 0, none⟩ = some (.int .i64 pc)) :
    Calls Try.prog 68 #[.agg #[.string (U ef), .int .i64 ep, .string (U et)], .pointer (some ⟨g, 0, none⟩), .pointer (some ⟨d, 0, none⟩)] W fun ee w' => ee = .returned (.bool (isAt key pc (ef, ep, et))) ∧ Below W.heap.size W w' := by
  have hlt := World.block_lt_of_cell? W _ hk
  have hlt2 := World.block_lt_of_cell? W _ hp
  by_cases h : ef = key
  · have hb := beq_U_true h
    by_cases h2 : ep = pc
    · subst h2
      go_enter Try.func68, Try.ntmps68
      go_wp2
      go_ret
      exact ⟨by simp [isAt], (Below.refl _ W).alloc (Nat.le_refl _) _⟩
    · have d0 : (ep == pc) = false := by simpa using h2
      go_enter Try.func68, Try.ntmps68
      go_wp2
      go_ret
      exact ⟨by simp [isAt, h2], (Below.refl _ W).alloc (Nat.le_refl _) _⟩
  · have hb := beq_U_false h
    go_enter Try.func68, Try.ntmps68
    go_wp2
    go_ret
    exact ⟨by simp [isAt, h], (Below.refl _ W).alloc (Nat.le_refl _) _⟩

theorem cl70 (kf : S) (kp : Int) (ef et : S) (ep : Int) (g : Nat) (W : World) (hk : W.cell? ⟨g, 0, none⟩ = some (.string (U kf))) (hp : W.cell? ⟨g, 1, none⟩ = some (.int .i64 kp)) :
    Calls Try.prog 70 #[.agg #[.string (U ef), .int .i64 ep, .string (U et)], .pointer (some ⟨g, 0, none⟩)] W fun ee w' => ee = .returned (.bool (isAt kf kp (ef, ep, et))) ∧ Below W.heap.size W w' := by
  have hlt := World.block_lt_of_cell? W _ hk
  have hlt2 := World.block_lt_of_cell? W _ hp
  by_cases h : ef = kf
  · have hb := beq_U_true h
    by_cases h2 : ep = kp
    · subst h2
      go_enter Try.func70, Try.ntmps70
      go_wp2
      go_ret
      exact ⟨by simp [isAt], (Below.refl _ W).alloc (Nat.le_refl _) _⟩
    · have d0 : (ep == kp) = false := by simpa using h2
      go_enter Try.func70, Try.ntmps70
      go_wp2
      go_ret
      exact ⟨by simp [isAt, h2], (Below.refl _ W).alloc (Nat.le_refl _) _⟩
  · have hb := beq_U_false h
    go_enter Try.func70, Try.ntmps70
    go_wp2
    go_ret
    exact ⟨by simp [isAt, h], (Below.refl _ W).alloc (Nat.le_refl _) _⟩

/-- A report that lies in a block. -/
def RepAt (w : World) (g : Nat) (e : S) (As : Option Addr) (ns cs : Nat) (Ar : Option Addr) (nr cr : Nat) (Ae : Option Addr) (ne ce : Nat) (x4 x5 : Value) : Prop :=
  w.heap[g]? = some (.cells #[.string (U e), .slice As ns cs, .slice Ar nr cr, .slice Ae ne ce, x4, x5] 32)

set_option maxRecDepth 100000 in
theorem cl69 (e : S) (As : Option Addr) (ns cs : Nat) (Ar : Option Addr) (nr cr : Nat) (Ae : Option Addr) (ce : Nat) (x4 x5 : Value) (es : List (S × Int × S)) (ef et : S) (ep : Int) (g : Nat) (W : World) (hE : EdgeRow W Ae es) (hn : es.length ≤ 100000)
    (hg : W.heap[g]? = some (.cells #[.string (U e), .slice As ns cs, .slice Ar nr cr, .slice Ae es.length ce, x4, x5] 32)) :
    Calls Try.prog 69 #[.agg #[.string (U ef), .int .i64 ep, .string (U et)], .pointer (some ⟨g, 0, none⟩)] W fun ee w' => ee = .returned (.bool (isLone es (ef, ep, et))) ∧ Below W.heap.size W w' := by
  have hlt : g < W.heap.size := (Array.getElem?_eq_some_iff.1 hg).1
  have HE := Lib.hid hE
  have HG := Lib.hid hg
  clear hE hg
  go_enter Try.func69, Try.ntmps69
  go_upto_region 1 with (fail)
  obtain ⟨w1, hw1⟩ : ∃ w1, w1 = W.alloc (.cells #[.string (U ef), .int .i64 ep, .string (U et)] 50) := ⟨_, rfl⟩
  rw [← hw1]
  have hb1 : Below W.heap.size W w1 := by rw [hw1]; exact (Below.refl _ W).alloc (Nat.le_refl _) _
  have hz1 : w1.heap.size = W.heap.size + 1 := by rw [hw1]; exact World.size_alloc _ _
  have hc1 : w1.heap[W.heap.size]? = some (.cells #[.string (U ef), .int .i64 ep, .string (U et)] 50) := by rw [hw1]; exact block_new _ _
  have hcg := (hb1.block g hlt).trans HG.out
  have k0 := cell_of_block (j := 0) hcg rfl
  have k1 := cell_of_block (j := 1) hcg rfl
  have k2 := cell_of_block (j := 2) hcg rfl
  have k3 := cell_of_block (j := 3) hcg rfl
  have k4 := cell_of_block (j := 4) hcg rfl
  have k5 := cell_of_block (j := 5) hcg rfl
  have H65 := Lib.hid (edges65_70 (isAt ef ep) (.pointer (some ⟨W.heap.size, 0, none⟩)) e As ns cs Ar nr cr Ae ce x4 x5 es w1 (HE.out.below hb1 (Nat.le_refl _)) hn (fun y _ W' hB' => by
    have hcc := (hB'.block W.heap.size (by omega)).trans hc1
    exact cl70 ef ep y.1 y.2.2 y.2.1 W.heap.size W' (cell_of_block (j := 0) hcc rfl) (cell_of_block (j := 1) hcc rfl)))
  have HB1 := Lib.hid hb1
  unfold repV at H65
  clear hb1 hz1 hc1 hcg hw1
  obtain ⟨l, hl⟩ : ∃ l, l = es.filter (isAt ef ep) := ⟨_, rfl⟩
  rw [← hl] at H65
  have hiL : isLone es (ef, ep, et) = decide (l.length = 1) := by rw [hl]; rfl
  have HIL := Lib.hid hiL
  have hll : l.length ≤ 100000 := by rw [hl]; exact Nat.le_trans (List.length_filter_le _ _) hn
  clear hiL hl
  by_cases h1 : l.length = 1
  · obtain ⟨x, rfl⟩ := List.length_eq_one_iff.1 h1
    go_wp2_with (go_at_call 65; refine H65.out.mono ?_; rintro ee w2 ⟨A2, c2, rfl, _, _, hB2⟩; have HB2 := Lib.hid hB2; clear hB2)
    go_ret
    exact ⟨by rw [HIL.out]; rfl, HB1.out.trans (HB2.out.mono HB1.out.size)⟩
  · have d0 : ((l.length : Int) == 1) = false := by simp; omega
    have d1 : decide ((l.length : Int) = 1) = false := by simp; omega
    go_wp2_with (go_at_call 65; refine H65.out.mono ?_; rintro ee w2 ⟨A2, c2, rfl, _, _, hB2⟩; have HB2 := Lib.hid hB2; clear hB2)
    go_ret
    exact ⟨by rw [HIL.out]; simp [h1], HB1.out.trans (HB2.out.mono HB1.out.size)⟩

section
variable (e : S) (As : Option Addr) (ns cs : Nat) (Ar : Option Addr) (nr cr : Nat) (Ae : Option Addr) (ce : Nat) (x4 x5 : Value) (es : List (S × Int × S)) (w : World) (hE : EdgeRow w Ae es) (hn : es.length ≤ 100000)
include hE hn

/-- Edges are answered; what was is as it was. -/
def EdgeAns (W : World) (L : List (S × Int × S)) (ee : Ending) (w' : World) : Prop := ∃ A c, ee = .returned (.slice A L.length c) ∧ L.length ≤ c ∧ EdgeRow w' A L ∧ Below W.heap.size W w'

set_option maxRecDepth 100000 in
theorem callers34 (key : S) : Calls Try.prog 34 #[.agg (repV e As ns cs Ar nr cr (.slice Ae es.length ce) x4 x5), .string (U key)] w (EdgeAns w (es.filter (isTo key))) := by
  have HE := Lib.hid hE
  clear hE
  unfold repV
  go_enter Try.func34, Try.ntmps34
  go_upto_region 1 with (fail)
  obtain ⟨w1, hw1⟩ : ∃ w1, w1 = (w.alloc (.cells #[.string (U e), .slice As ns cs, .slice Ar nr cr, .slice Ae es.length ce, x4, x5] 32)).alloc (.cells #[.string (U key)] 9) := ⟨_, rfl⟩
  rw [← hw1]
  have hb1 : Below w.heap.size w w1 := by rw [hw1]; exact ((Below.refl _ w).alloc (Nat.le_refl _) _).alloc (by simp) _
  have hz1 : w1.heap.size = w.heap.size + 1 + 1 := by rw [hw1, World.size_alloc, World.size_alloc]
  have hc1 : w1.heap[w.heap.size]? = some (.cells #[.string (U e), .slice As ns cs, .slice Ar nr cr, .slice Ae es.length ce, x4, x5] 32) := by rw [hw1, Below.heap_alloc _ _ _ (by simp)]; exact block_new _ _
  have hc2 : w1.heap[w.heap.size + 1]? = some (.cells #[.string (U key)] 9) := by
    have := block_new (w.alloc (.cells #[.string (U e), .slice As ns cs, .slice Ar nr cr, .slice Ae es.length ce, x4, x5] 32)) (.cells #[.string (U key)] 9)
    rw [World.size_alloc] at this
    rw [hw1]
    exact this
  have k0 := cell_of_block (j := 0) hc1 rfl
  have k1 := cell_of_block (j := 1) hc1 rfl
  have k2 := cell_of_block (j := 2) hc1 rfl
  have k3 := cell_of_block (j := 3) hc1 rfl
  have k4 := cell_of_block (j := 4) hc1 rfl
  have k5 := cell_of_block (j := 5) hc1 rfl
  have H65 := Lib.hid (edges65_66 (isTo key) (.pointer (some ⟨w.heap.size + 1, 0, none⟩)) e As ns cs Ar nr cr Ae ce x4 x5 es w1 (HE.out.below hb1 (Nat.le_refl _)) hn (fun y _ W' hB' => cl66 key y.1 y.2.2 y.2.1 (w.heap.size + 1) W' (cell_of_block (j := 0) ((hB'.block _ (by omega)).trans hc2) rfl)))
  have HB1 := Lib.hid hb1
  unfold repV at H65
  clear hb1 hz1 hc1 hc2 hw1
  go_wp2_with (go_at_call 65; refine H65.out.mono ?_; rintro ee w2 ⟨A2, c2, rfl, hle, hER, hB2⟩; have HB2 := Lib.hid hB2; have HER := Lib.hid hER; have HLE := Lib.hid hle; clear hB2 hER hle)
  go_ret
  exact ⟨A2, c2, rfl, HLE.out, HER.out, HB1.out.trans (HB2.out.mono HB1.out.size)⟩

set_option maxRecDepth 100000 in
theorem callees36 (key : S) : Calls Try.prog 36 #[.agg (repV e As ns cs Ar nr cr (.slice Ae es.length ce) x4 x5), .string (U key)] w (EdgeAns w (es.filter (isFrom key))) := by
  have HE := Lib.hid hE
  clear hE
  unfold repV
  go_enter Try.func36, Try.ntmps36
  go_upto_region 1 with (fail)
  obtain ⟨w1, hw1⟩ : ∃ w1, w1 = (w.alloc (.cells #[.string (U e), .slice As ns cs, .slice Ar nr cr, .slice Ae es.length ce, x4, x5] 32)).alloc (.cells #[.string (U key)] 9) := ⟨_, rfl⟩
  rw [← hw1]
  have hb1 : Below w.heap.size w w1 := by rw [hw1]; exact ((Below.refl _ w).alloc (Nat.le_refl _) _).alloc (by simp) _
  have hz1 : w1.heap.size = w.heap.size + 1 + 1 := by rw [hw1, World.size_alloc, World.size_alloc]
  have hc1 : w1.heap[w.heap.size]? = some (.cells #[.string (U e), .slice As ns cs, .slice Ar nr cr, .slice Ae es.length ce, x4, x5] 32) := by rw [hw1, Below.heap_alloc _ _ _ (by simp)]; exact block_new _ _
  have hc2 : w1.heap[w.heap.size + 1]? = some (.cells #[.string (U key)] 9) := by
    have := block_new (w.alloc (.cells #[.string (U e), .slice As ns cs, .slice Ar nr cr, .slice Ae es.length ce, x4, x5] 32)) (.cells #[.string (U key)] 9)
    rw [World.size_alloc] at this
    rw [hw1]
    exact this
  have k0 := cell_of_block (j := 0) hc1 rfl
  have k1 := cell_of_block (j := 1) hc1 rfl
  have k2 := cell_of_block (j := 2) hc1 rfl
  have k3 := cell_of_block (j := 3) hc1 rfl
  have k4 := cell_of_block (j := 4) hc1 rfl
  have k5 := cell_of_block (j := 5) hc1 rfl
  have H65 := Lib.hid (edges65_67 (isFrom key) (.pointer (some ⟨w.heap.size + 1, 0, none⟩)) e As ns cs Ar nr cr Ae ce x4 x5 es w1 (HE.out.below hb1 (Nat.le_refl _)) hn (fun y _ W' hB' => cl67 key y.1 y.2.2 y.2.1 (w.heap.size + 1) W' (cell_of_block (j := 0) ((hB'.block _ (by omega)).trans hc2) rfl)))
  have HB1 := Lib.hid hb1
  unfold repV at H65
  clear hb1 hz1 hc1 hc2 hw1
  go_wp2_with (go_at_call 65; refine H65.out.mono ?_; rintro ee w2 ⟨A2, c2, rfl, hle, hER, hB2⟩; have HB2 := Lib.hid hB2; have HER := Lib.hid hER; have HLE := Lib.hid hle; clear hB2 hER hle)
  go_ret
  exact ⟨A2, c2, rfl, HLE.out, HER.out, HB1.out.trans (HB2.out.mono HB1.out.size)⟩

set_option maxRecDepth 100000 in
theorem lonely39 : Calls Try.prog 39 #[.agg (repV e As ns cs Ar nr cr (.slice Ae es.length ce) x4 x5)] w (EdgeAns w (es.filter (isLone es))) := by
  have HE := Lib.hid hE
  clear hE
  unfold repV
  go_enter Try.func39, Try.ntmps39
  go_upto_region 1 with (fail)
  obtain ⟨w1, hw1⟩ : ∃ w1, w1 = w.alloc (.cells #[.string (U e), .slice As ns cs, .slice Ar nr cr, .slice Ae es.length ce, x4, x5] 32) := ⟨_, rfl⟩
  rw [← hw1]
  have hb1 : Below w.heap.size w w1 := by rw [hw1]; exact (Below.refl _ w).alloc (Nat.le_refl _) _
  have hz1 : w1.heap.size = w.heap.size + 1 := by rw [hw1, World.size_alloc]
  have hc1 : w1.heap[w.heap.size]? = some (.cells #[.string (U e), .slice As ns cs, .slice Ar nr cr, .slice Ae es.length ce, x4, x5] 32) := by rw [hw1]; exact block_new _ _
  have k0 := cell_of_block (j := 0) hc1 rfl
  have k1 := cell_of_block (j := 1) hc1 rfl
  have k2 := cell_of_block (j := 2) hc1 rfl
  have k3 := cell_of_block (j := 3) hc1 rfl
  have k4 := cell_of_block (j := 4) hc1 rfl
  have k5 := cell_of_block (j := 5) hc1 rfl
  have hE1 := HE.out.below hb1 (Nat.le_refl _)
  have H65 := Lib.hid (edges65_69 (isLone es) (.pointer (some ⟨w.heap.size, 0, none⟩)) e As ns cs Ar nr cr Ae ce x4 x5 es w1 hE1 hn (fun y _ W' hB' => cl69 e As ns cs Ar nr cr Ae ce x4 x5 es y.1 y.2.2 y.2.1 w.heap.size W' (hE1.below hB' (Nat.le_refl _)) hn ((hB'.block _ (by omega)).trans hc1)))
  have HB1 := Lib.hid hb1
  unfold repV at H65
  clear hb1 hz1 hc1 hw1 hE1
  go_wp2_with (go_at_call 65; refine H65.out.mono ?_; rintro ee w2 ⟨A2, c2, rfl, hle, hER, hB2⟩; have HB2 := Lib.hid hB2; have HER := Lib.hid hER; have HLE := Lib.hid hle; clear hB2 hER hle)
  go_ret
  exact ⟨A2, c2, rfl, HLE.out, HER.out, HB1.out.trans (HB2.out.mono HB1.out.size)⟩
end
end Go.Proofs.Ytljfknneijmfoaa
