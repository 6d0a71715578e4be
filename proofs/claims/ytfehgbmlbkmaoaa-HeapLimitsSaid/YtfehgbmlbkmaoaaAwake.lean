import Derived.Test.YtfehgbmlbkmaoaaGet
namespace Go.Proofs.Ytfehgbmlbkmaoaa
open Go.RowKit Go.Maps Go.WideMaps
attribute [local go_sem] run_store_complex

theorem heap_made (w : World) (F : Obj) : ((w.alloc (.cells #[.slice none 0 0] 24)).alloc F).heap[w.heap.size]? = some (.cells #[.slice none 0 0] 24 (0, 0)) :=
  (Below.heap_alloc _ _ _ (by rw [World.size_alloc]; omega)).trans (heap_alloc_new w _)
theorem field_made (w : World) (O F : Obj) : ((w.alloc O).alloc F).heap[w.heap.size + 1]? = some F := by
  have h := heap_alloc_new (w.alloc O) F
  rw [World.size_alloc] at h
  exact h

/-- What a store of a zero value into a new block leaves. -/
def St (w : World) : World := ((((w.alloc (.cells #[.int .i64 0, .int .i64 0, .complex .f64 0 0] 31)).setCell ⟨w.heap.size, 0, none⟩ (.int .i64 0)).setCell ⟨w.heap.size, 1, none⟩ (.int .i64 0)).setCell ⟨w.heap.size, 2, none⟩ (.complex .f64 0 0))
theorem St_block (w : World) : (St w).heap[w.heap.size]? = some (.cells #[.int .i64 0, .int .i64 0, .complex .f64 0 0] 31 (0, 0)) := three_set (heap_alloc_new w _)
theorem St_below (w : World) : Below w.heap.size w (St w) := (((made31 w).setCell (Nat.le_refl _) _).setCell (Nat.le_refl _) _).setCell (Nat.le_refl _) _

set_option maxRecDepth 100000 in
theorem awake11 (w : World) : Calls Try.prog 11 #[] w fun e w' => e = .returned (.bool true) ∧ Below w.heap.size w w' := by
  go_enter Try.func11, Try.ntmps11
  go_upto_region 4 with (first
    | (go_at_call 8; refine (new8 w.heap.size (w.heap.size + 1) _ (heap_made w _) (field_made w _ _)).mono ?_; rintro e w2 ⟨rfl, hO2, hB2⟩; have HO2 := Lib.hid hO2; have HB2 := Lib.hid (((Below.refl w.heap.size w).alloc (Nat.le_refl _) _).alloc (by rw [World.size_alloc]; omega) _ |>.trans hB2); clear hO2 hB2)
    | (go_at_call 7; refine (getX7 w.heap.size _ HO2.out).mono ?_; unfold zv; rintro e w3 ⟨rfl, hB3⟩; have HO3 := Lib.hid (HO2.out.below hB3); have HB3 := Lib.hid (HB2.out.trans (hB3.mono HB2.out.size)); clear hB3 HO2 HB2; have hn := heap_alloc_new w3 (.cells #[.int .i64 0, .int .i64 0, .complex .f64 0 0] 31); have k0 := cell_of_block (j := 0) hn rfl; have k1 := cell_of_block (j := 1) hn rfl; have k2 := cell_of_block (j := 2) hn rfl; have f0 := frozen_of_block (j := 0) hn; have f1 := frozen_of_block (j := 1) hn; have f2 := frozen_of_block (j := 2) hn; clear hn))
  have hb4 := made31 w3
  have hn4 := heap_alloc_new w3 (.cells #[.int .i64 0, .int .i64 0, .complex .f64 0 0] 31)
  have HO4 := Lib.hid (HO3.out.below hb4)
  have HB4 := Lib.hid (HB3.out.trans (hb4.mono HB3.out.size))
  have HN4 := Lib.hid hn4
  obtain ⟨w4, hw4⟩ : ∃ w4, w4 = w3.alloc (.cells #[.int .i64 0, .int .i64 0, .complex .f64 0 0] 31) := ⟨_, rfl⟩
  rw [← hw4] at HN4 HO4 HB4
  rw [← hw4]
  clear hw4 hb4 hn4 k0 k1 k2 f0 f1 f2 HO3 HB3
  go_upto_region 5 with (first
    | (go_at_call 7; refine (getY7 w.heap.size _ HO4.out).mono ?_; unfold zv; rintro e w5 ⟨rfl, hB5⟩; have HO5 := Lib.hid (HO4.out.below hB5); have HB5 := Lib.hid (HB4.out.trans (hB5.mono HB4.out.size)); have HN5 := Lib.hid ((hB5.block _ (Array.getElem?_eq_some_iff.1 HN4.out).1).trans HN4.out); clear hB5 HO4 HB4 HN4; have hn := heap_alloc_new w5 (.cells #[.int .i64 0, .int .i64 0, .complex .f64 0 0] 31); have k0 := cell_of_block (j := 0) hn rfl; have k1 := cell_of_block (j := 1) hn rfl; have k2 := cell_of_block (j := 2) hn rfl; have f0 := frozen_of_block (j := 0) hn; have f1 := frozen_of_block (j := 1) hn; have f2 := frozen_of_block (j := 2) hn; clear hn))
  have hb6 := made31 w5
  have HO6 := Lib.hid (HO5.out.below hb6)
  have HB6 := Lib.hid (HB5.out.trans (hb6.mono HB5.out.size))
  have hn6 := (hb6.block _ (Array.getElem?_eq_some_iff.1 HN5.out).1).trans HN5.out
  have q0 := cell_of_block (j := 0) hn6 rfl
  have q1 := cell_of_block (j := 1) hn6 rfl
  obtain ⟨w6, hw6⟩ : ∃ w6, w6 = w5.alloc (.cells #[.int .i64 0, .int .i64 0, .complex .f64 0 0] 31) := ⟨_, rfl⟩
  rw [← hw6] at q0 q1 HO6 HB6
  rw [← hw6]
  clear hw6 hb6 hn6 k0 k1 k2 f0 f1 f2 HO5 HB5 HN5
  go_wp2_with (go_at_call 18; refine (lenObj18 w.heap.size _ HO6.out).mono ?_; rintro e w7 ⟨rfl, rfl⟩)
  go_ret
  exact ⟨rfl, HB6.out⟩
end Go.Proofs.Ytfehgbmlbkmaoaa
