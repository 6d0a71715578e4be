import Derived.Test.YtfehgbmlbkmaoaaArr
namespace Go.Proofs.Ytfehgbmlbkmaoaa
open Go.RowKit Go.Maps Go.WideMaps
attribute [local go_sem] run_store_complex

/-- A value that is zero. -/
def zv : Value := .agg #[.int .i64 0, .int .i64 0, .complex .f64 0 0]

set_option maxRecDepth 100000 in
theorem findNil16 (w : World) : Calls Try.prog 16 #[.pointer none, .int .i64 1] w fun e w' => e = .returned (.pointer none) ∧ w' = w := by
  go_enter Try.func16, Try.ntmps16
  go_wp2
  go_ret
  exact ⟨rfl, rfl⟩

set_option maxRecDepth 100000 in
theorem findNone16 (b : Nat) (w : World) (hb : w.heap[b]? = some (.cells #[.slice none 0 0] 24 (0, 0))) : Calls Try.prog 16 #[.pointer (some ⟨b, 0, none⟩), .int .i64 1] w fun e w' => e = .returned (.pointer none) ∧ w' = w := by
  have k0 := cell_of_block (j := 0) hb rfl
  go_enter Try.func16, Try.ntmps16
  go_wp2
  go_ret
  exact ⟨rfl, rfl⟩

set_option maxRecDepth 100000 in
theorem findOne16 (b gg cap o : Nat) (w : World) (hb : w.heap[b]? = some (.cells #[.slice (some ⟨gg, 0, none⟩) 1 cap] 24 (0, 0))) (hg : w.cell? ⟨gg, 0, none⟩ = some (.pointer (some ⟨o, 0, none⟩))) :
    Calls Try.prog 16 #[.pointer (some ⟨b, 0, none⟩), .int .i64 1] w fun e w' => e = .returned (.pointer (some ⟨o, 0, none⟩)) ∧ w' = w := by
  have k0 := cell_of_block (j := 0) hb rfl
  go_enter Try.func16, Try.ntmps16
  go_wp2
  go_ret
  exact ⟨rfl, rfl⟩

set_option maxRecDepth 100000 in
theorem lenNone18 (p : Option Addr) (w : World) (hf : Calls Try.prog 16 #[.pointer p, .int .i64 1] w fun e w' => e = .returned (.pointer none) ∧ w' = w) : Calls Try.prog 18 #[.pointer p, .int .i64 1] w fun e w' => e = .returned (.int .i64 (-1)) ∧ w' = w := by
  have HF := Lib.hid hf
  clear hf
  go_enter Try.func18, Try.ntmps18
  go_wp2_with (go_at_call 16; refine HF.out.mono ?_; rintro e w1 ⟨rfl, rfl⟩)
  go_ret
  exact ⟨rfl, rfl⟩

set_option maxRecDepth 100000 in
theorem lenArr18 (b n : Nat) (w : World) (h : HeapArr b n w) : Calls Try.prog 18 #[.pointer (some ⟨b, 0, none⟩), .int .i64 1] w fun e w' => e = .returned (.int .i64 n) ∧ w' = w := by
  obtain ⟨gg, cap, o, ge, cur, h1, h2, h3, h4, h5, h6⟩ := h
  have HF := Lib.hid (findOne16 b gg cap o w h1 h2)
  have k3 := cell_of_block (j := 3) h3 rfl
  have k4 := cell_of_block (j := 4) h3 rfl
  clear h1 h2 h3 h4
  go_enter Try.func18, Try.ntmps18
  go_wp2_with (go_at_call 16; refine HF.out.mono ?_; rintro e w1 ⟨rfl, rfl⟩)
  go_ret
  exact ⟨rfl, rfl⟩

set_option maxRecDepth 100000 in
theorem placeNone15 (p : Option Addr) (i : Int) (w : World) (hf : Calls Try.prog 16 #[.pointer p, .int .i64 1] w fun e w' => e = .returned (.pointer none) ∧ w' = w) : Calls Try.prog 15 #[.pointer p, .int .i64 1, .int .i64 i] w fun e w' => e = .returned (.tuple #[.pointer none, .int .i64 11]) ∧ w' = w := by
  have HF := Lib.hid (lenNone18 p w hf)
  clear hf
  go_enter Try.func15, Try.ntmps15
  go_wp2_with (go_at_call 18; refine HF.out.mono ?_; rintro e w1 ⟨rfl, rfl⟩)
  go_ret2
  exact ⟨rfl, rfl⟩

set_option maxRecDepth 100000 in
theorem placeBad15 (b n : Nat) (i : Int) (hi : i < 0 ∨ (n : Int) ≤ i) (w : World) (h : HeapArr b n w) : Calls Try.prog 15 #[.pointer (some ⟨b, 0, none⟩), .int .i64 1, .int .i64 i] w fun e w' => e = .returned (.tuple #[.pointer none, .int .i64 1]) ∧ w' = w := by
  have HF := Lib.hid (lenArr18 b n w h)
  clear h
  have hn : ¬ ((n : Int) < 0) := by omega
  by_cases h0 : i < 0
  · go_enter Try.func15, Try.ntmps15
    go_wp2_with (go_at_call 18; refine HF.out.mono ?_; rintro e w1 ⟨rfl, rfl⟩)
    go_ret2
    exact ⟨rfl, rfl⟩
  · have h1 : (n : Int) ≤ i := by omega
    go_enter Try.func15, Try.ntmps15
    go_wp2_with (go_at_call 18; refine HF.out.mono ?_; rintro e w1 ⟨rfl, rfl⟩)
    go_ret2
    exact ⟨rfl, rfl⟩

set_option maxRecDepth 100000 in
theorem placeOk15 (b n k : Nat) (hk : k < n) (w : World) (h : HeapArr b n w) : Calls Try.prog 15 #[.pointer (some ⟨b, 0, none⟩), .int .i64 1, .int .i64 k] w fun e w' => (∃ ge cur, e = .returned (.tuple #[.pointer (some ⟨ge, k * 3, none⟩), .int .i64 0]) ∧ w.heap[ge]? = some (.cells cur 31 (0, 0)) ∧ Zeros cur ∧ cur.size = 3 * n) ∧ w' = w := by
  have HF := Lib.hid (lenArr18 b n w h)
  obtain ⟨gg, cap, o, ge, cur, h1, h2, h3, h4, h5, h6⟩ := h
  have HG := Lib.hid (findOne16 b gg cap o w h1 h2)
  have k3 := cell_of_block (j := 3) h3 rfl
  have H4 := Lib.hid h4
  clear h1 h2 h3 h4
  have hn : ¬ ((n : Int) < 0) := by omega
  have i0 : ¬ ((k : Int) < 0) := by omega
  have i1 : ¬ ((n : Int) ≤ (k : Int)) := by omega
  have i2 : (0 : Int) ≤ (k : Int) := by omega
  have i3 : (k : Int) < (n : Int) := by omega
  go_enter Try.func15, Try.ntmps15
  go_wp2_with (first
    | (go_at_call 18; refine HF.out.mono ?_; rintro e w1 ⟨rfl, rfl⟩)
    | (go_at_call 16; refine HG.out.mono ?_; rintro e w1 ⟨rfl, rfl⟩))
  go_ret2
  exact ⟨⟨ge, cur, rfl, H4.out, h5, h6⟩, rfl⟩

theorem HeapArr.below {b n : Nat} {w w' : World} (h : HeapArr b n w) (hB : Below w.heap.size w w') : HeapArr b n w' := by
  obtain ⟨gg, cap, o, ge, cur, h1, h2, h3, h4, h5, h6⟩ := h
  exact ⟨gg, cap, o, ge, cur, (hB.block _ (Array.getElem?_eq_some_iff.1 h1).1).trans h1, (hB.cell (World.block_lt_of_cell? _ _ h2)).trans h2, (hB.block _ (Array.getElem?_eq_some_iff.1 h3).1).trans h3, (hB.block _ (Array.getElem?_eq_some_iff.1 h4).1).trans h4, h5, h6⟩

theorem three_set {w : World} {b : Nat} {a0 a1 a2 v0 v1 v2 : Value} {t : TypeId} (h : w.heap[b]? = some (.cells #[a0, a1, a2] t (0, 0))) : (((w.setCell ⟨b, 0, none⟩ v0).setCell ⟨b, 1, none⟩ v1).setCell ⟨b, 2, none⟩ v2).heap[b]? = some (.cells #[v0, v1, v2] t (0, 0)) := by
  simp only [World.setCell, Array.getElem?_modify]
  simp [h]

theorem zc_at0 (k : Nat) : zc (k * 3) = .int .i64 0 := by unfold zc; rw [if_neg (by omega)]
theorem zc_at1 (k : Nat) : zc (k * 3 + 1) = .int .i64 0 := by unfold zc; rw [if_neg (by omega)]
theorem zc_at2 (k : Nat) : zc (k * 3 + 2) = .complex .f64 0 0 := by unfold zc; rw [if_pos (by omega)]

theorem made31 (w : World) : Below w.heap.size w (w.alloc (.cells #[.int .i64 0, .int .i64 0, .complex .f64 0 0] 31)) := (Below.refl _ w).alloc (Nat.le_refl _) _

set_option maxRecDepth 100000 in
theorem atErr6 (p : Option Addr) (i c : Int) (hc : c = 1 ∨ c = 11) (w : World) (hp : ∀ W, Below w.heap.size w W → Calls Try.prog 15 #[.pointer p, .int .i64 1, .int .i64 i] W fun e w' => e = .returned (.tuple #[.pointer none, .int .i64 c]) ∧ w' = W) :
    Calls Try.prog 6 #[.pointer p, .int .i64 1, .int .i64 i] w fun e w' => e = .returned (.tuple #[zv, .int .i64 c]) ∧ Below w.heap.size w w' := by
  have HP := Lib.hid (hp _ (made31 w))
  have hb := made31 w
  have hn := heap_alloc_new w (.cells #[.int .i64 0, .int .i64 0, .complex .f64 0 0] 31)
  obtain ⟨w1, hw1⟩ : ∃ w1, w1 = w.alloc (.cells #[.int .i64 0, .int .i64 0, .complex .f64 0 0] 31) := ⟨_, rfl⟩
  rw [← hw1] at HP hb hn
  have hc0 : (c == 0) = false := by rw [beq_eq_false_iff_ne]; omega
  have k0 := cell_of_block (j := 0) hn rfl
  have k1 := cell_of_block (j := 1) hn rfl
  have k2 := cell_of_block (j := 2) hn rfl
  have f0 := frozen_of_block (j := 0) hn
  have f1 := frozen_of_block (j := 1) hn
  have f2 := frozen_of_block (j := 2) hn
  clear hp
  go_enter Try.func6, Try.ntmps6
  go_upto_region 1 with (fail)
  rw [← hw1]
  clear hw1
  go_wp2_with (go_at_call 15; refine HP.out.mono ?_; rintro e w2 ⟨rfl, rfl⟩)
  have hs := three_set (v0 := .int .i64 0) (v1 := .int .i64 0) (v2 := .complex .f64 0 0) hn
  have l0 := cell_of_block (j := 0) hs rfl
  have l1 := cell_of_block (j := 1) hs rfl
  have l2 := cell_of_block (j := 2) hs rfl
  refine bodyPost_ret (v := .tuple #[zv, .int .i64 c]) (by simp [results, Try.results6, go_sem, l0, l1, l2, zv]) rfl ⟨rfl, ?_⟩
  exact ((hb.setCell (Nat.le_refl _) _).setCell (Nat.le_refl _) _).setCell (Nat.le_refl _) _

set_option maxRecDepth 100000 in
theorem atOk6 (b n k : Nat) (hk : k < n) (w : World) (h : HeapArr b n w) : Calls Try.prog 6 #[.pointer (some ⟨b, 0, none⟩), .int .i64 1, .int .i64 k] w fun e w' => e = .returned (.tuple #[zv, .int .i64 0]) ∧ Below w.heap.size w w' := by
  have hb := made31 w
  have hn := heap_alloc_new w (.cells #[.int .i64 0, .int .i64 0, .complex .f64 0 0] 31)
  have HP := Lib.hid (placeOk15 b n k hk _ (h.below hb))
  obtain ⟨w1, hw1⟩ : ∃ w1, w1 = w.alloc (.cells #[.int .i64 0, .int .i64 0, .complex .f64 0 0] 31) := ⟨_, rfl⟩
  rw [← hw1] at HP hb hn
  have k0 := cell_of_block (j := 0) hn rfl
  have k1 := cell_of_block (j := 1) hn rfl
  have k2 := cell_of_block (j := 2) hn rfl
  have f0 := frozen_of_block (j := 0) hn
  have f1 := frozen_of_block (j := 1) hn
  have f2 := frozen_of_block (j := 2) hn
  clear h
  go_enter Try.func6, Try.ntmps6
  go_upto_region 1 with (fail)
  rw [← hw1]
  clear hw1
  go_wp2_with (go_at_call 15; refine HP.out.mono ?_; rintro e w2 ⟨⟨ge, cur, rfl, h4, h5, h6⟩, rfl⟩; have c0 := cell_of_block (j := k * 3) h4 ((h5 (k * 3) (by omega)).trans (congrArg some (zc_at0 k))); have c1 := cell_of_block (j := k * 3 + 1) h4 ((h5 (k * 3 + 1) (by omega)).trans (congrArg some (zc_at1 k))); have c2 := cell_of_block (j := k * 3 + 2) h4 ((h5 (k * 3 + 2) (by omega)).trans (congrArg some (zc_at2 k))); clear h4 h5)
  have hs := three_set (v0 := .int .i64 0) (v1 := .int .i64 0) (v2 := .complex .f64 0 0) hn
  have l0 := cell_of_block (j := 0) hs rfl
  have l1 := cell_of_block (j := 1) hs rfl
  have l2 := cell_of_block (j := 2) hs rfl
  refine bodyPost_ret (v := .tuple #[zv, .int .i64 0]) (by simp [results, Try.results6, go_sem, l0, l1, l2, zv]) rfl ⟨rfl, ?_⟩
  exact ((hb.setCell (Nat.le_refl _) _).setCell (Nat.le_refl _) _).setCell (Nat.le_refl _) _

set_option maxRecDepth 100000 in
theorem countNil5 (w : World) : Calls Try.prog 5 #[.pointer none] w fun e w' => e = .returned (.int .i64 0) ∧ w' = w := by
  go_enter Try.func5, Try.ntmps5
  go_wp2
  go_ret
  exact ⟨rfl, rfl⟩

set_option maxRecDepth 100000 in
theorem countNone5 (b : Nat) (w : World) (hb : w.heap[b]? = some (.cells #[.slice none 0 0] 24 (0, 0))) : Calls Try.prog 5 #[.pointer (some ⟨b, 0, none⟩)] w fun e w' => e = .returned (.int .i64 0) ∧ w' = w := by
  have k0 := cell_of_block (j := 0) hb rfl
  go_enter Try.func5, Try.ntmps5
  go_wp2
  go_ret
  exact ⟨rfl, rfl⟩

set_option maxRecDepth 100000 in
theorem newNil8 (w : World) : Calls Try.prog 8 #[.pointer none, .string ⟨#[76, 65, 59]⟩, .string ⟨#[115]⟩, .slice none 0 0] w fun e w' => e = .returned (.int .i64 0) ∧ w' = w := by
  go_enter Try.func8, Try.ntmps8
  go_wp2
  go_ret
  exact ⟨rfl, rfl⟩

set_option maxRecDepth 100000 in
theorem typeNil9 (w : World) : Calls Try.prog 9 #[.pointer none, .int .i64 1] w fun e w' => e = .returned (.string ⟨#[]⟩) ∧ w' = w := by
  go_enter Try.func9, Try.ntmps9
  go_wp2_with (go_at_call 16; refine (findNil16 _).mono ?_; rintro e w1 ⟨rfl, rfl⟩)
  go_ret
  exact ⟨rfl, rfl⟩

set_option maxRecDepth 100000 in
theorem setNil10 (w : World) : Calls Try.prog 10 #[.pointer none, .int .i64 1, .int .i64 0, zv] w fun e w' => e = .returned (.int .i64 11) ∧ Below w.heap.size w w' := by
  unfold zv
  go_enter Try.func10, Try.ntmps10
  go_wp2_with (go_at_call 15; refine (placeNone15 none 0 _ (findNil16 _)).mono ?_; rintro e w1 ⟨rfl, rfl⟩)
  go_ret
  exact ⟨rfl, made31 w⟩

set_option maxRecDepth 100000 in
theorem getNil7 (w : World) : Calls Try.prog 7 #[.pointer none, .int .i64 1, .string ⟨#[120]⟩] w fun e w' => e = .returned (.tuple #[zv, .int .i64 11]) ∧ Below w.heap.size w w' := by
  have hb := made31 w
  have hn := heap_alloc_new w (.cells #[.int .i64 0, .int .i64 0, .complex .f64 0 0] 31)
  obtain ⟨w1, hw1⟩ : ∃ w1, w1 = w.alloc (.cells #[.int .i64 0, .int .i64 0, .complex .f64 0 0] 31) := ⟨_, rfl⟩
  rw [← hw1] at hb hn
  have k0 := cell_of_block (j := 0) hn rfl
  have k1 := cell_of_block (j := 1) hn rfl
  have k2 := cell_of_block (j := 2) hn rfl
  have f0 := frozen_of_block (j := 0) hn
  have f1 := frozen_of_block (j := 1) hn
  have f2 := frozen_of_block (j := 2) hn
  go_enter Try.func7, Try.ntmps7
  go_upto_region 1 with (fail)
  rw [← hw1]
  clear hw1
  go_wp2_with (go_at_call 16; refine (findNil16 _).mono ?_; rintro e w2 ⟨rfl, rfl⟩)
  have hs := three_set (v0 := .int .i64 0) (v1 := .int .i64 0) (v2 := .complex .f64 0 0) hn
  have l0 := cell_of_block (j := 0) hs rfl
  have l1 := cell_of_block (j := 1) hs rfl
  have l2 := cell_of_block (j := 2) hs rfl
  refine bodyPost_ret (v := .tuple #[zv, .int .i64 11]) (by simp [results, Try.results7, go_sem, l0, l1, l2, zv]) rfl ⟨rfl, ?_⟩
  exact ((hb.setCell (Nat.le_refl _) _).setCell (Nat.le_refl _) _).setCell (Nat.le_refl _) _
end Go.Proofs.Ytfehgbmlbkmaoaa
