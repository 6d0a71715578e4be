import Derived.Test.YtfehgbmlbkmaoaaNew
namespace Go.Proofs.Ytfehgbmlbkmaoaa
open Go.RowKit Go.Maps Go.WideMaps
attribute [local go_sem] run_store_complex

theorem zero31 (w : World) : (zeroValue 31).run Try.prog w = .ok (.agg #[.int .i64 0, .int .i64 0, .complex .f64 0 0]) w := by kernel_rfl

theorem HeapObj.below {b : Nat} {w w' : World} (h : HeapObj b w) (hB : Below w.heap.size w w') : HeapObj b w' := by
  obtain ⟨gg, cap, o, m, h1, h2, h3, h4⟩ := h
  exact ⟨gg, cap, o, m, (hB.block _ (Array.getElem?_eq_some_iff.1 h1).1).trans h1, (hB.cell (World.block_lt_of_cell? _ _ h2)).trans h2, (hB.block _ (Array.getElem?_eq_some_iff.1 h3).1).trans h3, h4.below hB h4.lt⟩

set_option maxRecDepth 100000 in
theorem getX7 (b : Nat) (w : World) (h : HeapObj b w) : Calls Try.prog 7 #[.pointer (some ⟨b, 0, none⟩), .int .i64 1, .string ⟨#[120]⟩] w fun e w' => e = .returned (.tuple #[zv, .int .i64 0]) ∧ Below w.heap.size w w' := by
  have hb := made31 w
  have hn := heap_alloc_new w (.cells #[.int .i64 0, .int .i64 0, .complex .f64 0 0] 31)
  obtain ⟨gg, cap, o, m, h1, h2, h3, h4⟩ := h.below hb
  obtain ⟨w1, hw1⟩ : ∃ w1, w1 = w.alloc (.cells #[.int .i64 0, .int .i64 0, .complex .f64 0 0] 31) := ⟨_, rfl⟩
  rw [← hw1] at hb hn h1 h2 h3 h4
  have HF := Lib.hid (findOne16 b gg cap o w1 h1 h2)
  have HM := Lib.hid h4
  have m2 := cell_of_block (j := 2) h3 rfl
  have k0 := cell_of_block (j := 0) hn rfl
  have k1 := cell_of_block (j := 1) hn rfl
  have k2 := cell_of_block (j := 2) hn rfl
  have f0 := frozen_of_block (j := 0) hn
  have f1 := frozen_of_block (j := 1) hn
  have f2 := frozen_of_block (j := 2) hn
  have hs := three_set (v0 := .int .i64 0) (v1 := .int .i64 0) (v2 := .complex .f64 0 0) hn
  have l0 := cell_of_block (j := 0) hs rfl
  have l1 := cell_of_block (j := 1) hs rfl
  have l2 := cell_of_block (j := 2) hs rfl
  have f10 := frozen_of_block (j := 0) hs
  have f11 := frozen_of_block (j := 1) hs
  have f12 := frozen_of_block (j := 2) hs
  have ht := three_set (v0 := .int .i64 0) (v1 := .int .i64 0) (v2 := .complex .f64 0 0) hs
  have t0 := cell_of_block (j := 0) ht rfl
  have t1 := cell_of_block (j := 1) ht rfl
  have t2 := cell_of_block (j := 2) ht rfl
  clear h h1 h2 h3 h4 hs ht
  go_enter Try.func7, Try.ntmps7
  go_upto_region 1 with (fail)
  rw [← hw1]
  clear hw1
  go_wp2_with (first
    | (go_at_call 16; refine HF.out.mono ?_; rintro e w2 ⟨rfl, rfl⟩)
    | (at_lookup; refine wpList_lookup_ok_h _ rfl _ _ 47 rfl 31 Try.underlying47 _ (zero31 _) m 1 (fx 1) rfl HM.out ⟨#[120]⟩ rfl (by decide) (.agg #[.int .i64 0, .int .i64 0, .complex .f64 0 0]) rfl true rfl ?_))
  refine bodyPost_ret (v := .tuple #[zv, .int .i64 0]) (by simp [results, Try.results7, go_sem, t0, t1, t2, zv]) rfl ⟨rfl, ?_⟩
  exact (((((hb.setCell (Nat.le_refl _) _).setCell (Nat.le_refl _) _).setCell (Nat.le_refl _) _).setCell (Nat.le_refl _) _).setCell (Nat.le_refl _) _).setCell (Nat.le_refl _) _

set_option maxRecDepth 100000 in
theorem getY7 (b : Nat) (w : World) (h : HeapObj b w) : Calls Try.prog 7 #[.pointer (some ⟨b, 0, none⟩), .int .i64 1, .string ⟨#[121]⟩] w fun e w' => e = .returned (.tuple #[zv, .int .i64 11]) ∧ Below w.heap.size w w' := by
  have hb := made31 w
  have hn := heap_alloc_new w (.cells #[.int .i64 0, .int .i64 0, .complex .f64 0 0] 31)
  obtain ⟨gg, cap, o, m, h1, h2, h3, h4⟩ := h.below hb
  obtain ⟨w1, hw1⟩ : ∃ w1, w1 = w.alloc (.cells #[.int .i64 0, .int .i64 0, .complex .f64 0 0] 31) := ⟨_, rfl⟩
  rw [← hw1] at hb hn h1 h2 h3 h4
  have HF := Lib.hid (findOne16 b gg cap o w1 h1 h2)
  have HM := Lib.hid h4
  have m2 := cell_of_block (j := 2) h3 rfl
  have k0 := cell_of_block (j := 0) hn rfl
  have k1 := cell_of_block (j := 1) hn rfl
  have k2 := cell_of_block (j := 2) hn rfl
  have f0 := frozen_of_block (j := 0) hn
  have f1 := frozen_of_block (j := 1) hn
  have f2 := frozen_of_block (j := 2) hn
  have hs := three_set (v0 := .int .i64 0) (v1 := .int .i64 0) (v2 := .complex .f64 0 0) hn
  have l0 := cell_of_block (j := 0) hs rfl
  have l1 := cell_of_block (j := 1) hs rfl
  have l2 := cell_of_block (j := 2) hs rfl
  have f10 := frozen_of_block (j := 0) hs
  have f11 := frozen_of_block (j := 1) hs
  have f12 := frozen_of_block (j := 2) hs
  have ht := three_set (v0 := .int .i64 0) (v1 := .int .i64 0) (v2 := .complex .f64 0 0) hs
  have t0 := cell_of_block (j := 0) ht rfl
  have t1 := cell_of_block (j := 1) ht rfl
  have t2 := cell_of_block (j := 2) ht rfl
  clear h h1 h2 h3 h4 hs ht
  go_enter Try.func7, Try.ntmps7
  go_upto_region 1 with (fail)
  rw [← hw1]
  clear hw1
  go_wp2_with (first
    | (go_at_call 16; refine HF.out.mono ?_; rintro e w2 ⟨rfl, rfl⟩)
    | (at_lookup; refine wpList_lookup_ok_h _ rfl _ _ 47 rfl 31 Try.underlying47 _ (zero31 _) m 1 (fx 1) rfl HM.out ⟨#[121]⟩ rfl (by decide) (.agg #[.int .i64 0, .int .i64 0, .complex .f64 0 0]) rfl false rfl ?_))
  refine bodyPost_ret (v := .tuple #[zv, .int .i64 11]) (by simp [results, Try.results7, go_sem, t0, t1, t2, zv]) rfl ⟨rfl, ?_⟩
  exact (((((hb.setCell (Nat.le_refl _) _).setCell (Nat.le_refl _) _).setCell (Nat.le_refl _) _).setCell (Nat.le_refl _) _).setCell (Nat.le_refl _) _).setCell (Nat.le_refl _) _

set_option maxRecDepth 100000 in
theorem lenObj18 (b : Nat) (w : World) (h : HeapObj b w) : Calls Try.prog 18 #[.pointer (some ⟨b, 0, none⟩), .int .i64 1] w fun e w' => e = .returned (.int .i64 (-1)) ∧ w' = w := by
  obtain ⟨gg, cap, o, m, h1, h2, h3, h4⟩ := h
  have HF := Lib.hid (findOne16 b gg cap o w h1 h2)
  have k3 := cell_of_block (j := 3) h3 rfl
  have k4 := cell_of_block (j := 4) h3 rfl
  clear h1 h2 h3 h4
  go_enter Try.func18, Try.ntmps18
  go_wp2_with (go_at_call 16; refine HF.out.mono ?_; rintro e w1 ⟨rfl, rfl⟩)
  go_ret
  exact ⟨rfl, rfl⟩
end Go.Proofs.Ytfehgbmlbkmaoaa
