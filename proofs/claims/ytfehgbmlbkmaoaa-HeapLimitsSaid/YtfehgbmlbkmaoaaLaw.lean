import Derived.Test.YtfehgbmlbkmaoaaAwake
namespace Go.Proofs.Ytfehgbmlbkmaoaa
open Go.RowKit Go.Maps Go.WideMaps
attribute [local go_sem] run_store_complex

set_option maxRecDepth 100000 in
set_option maxHeartbeats 4000000 in
theorem lawA1 (m k : Nat) (hm : m ≤ 100) (hk : k < m) (w : World) : Calls Try.prog 3 #[.int .i64 m, .int .i64 k] w fun e w' => e = .returned (.bool true) ∧ Below w.heap.size w w' := by
  have i1 : (m : Int) ≤ 100 := by omega
  have i2 : (k : Int) < (m : Int) := by omega
  have i3 : (0 : Int) ≤ (m : Int) := by omega
  have i4 : (0 : Int) ≤ (k : Int) := by omega
  have hb0 := (Below.refl w.heap.size w).alloc (Nat.le_refl _) (.cells #[.slice none 0 0] 24)
  have hn0 := heap_alloc_new w (.cells #[.slice none 0 0] 24)
  have HB0 := Lib.hid hb0
  have HN0 := Lib.hid hn0
  obtain ⟨w1, hw1⟩ : ∃ w1, w1 = w.alloc (.cells #[.slice none 0 0] 24) := ⟨_, rfl⟩
  rw [← hw1] at HB0 HN0
  clear hb0 hn0
  go_enter Try.func3, Try.ntmps3
  go_upto_region 2 with (fail)
  rw [← hw1]
  clear hw1
  go_upto_region 13 with (first
    | (go_at_call 4; refine (arrayOk4 w.heap.size m hm w1 HN0.out).mono ?_; rintro e w2 ⟨rfl, hA2, hB2⟩; have HA2 := Lib.hid hA2; have HB2 := Lib.hid (HB0.out.trans hB2); clear hA2 hB2)
    | (go_at_call 6; refine (atOk6 w.heap.size m k hk _ HA2.out).mono ?_; unfold zv; rintro e w3 ⟨rfl, hB3⟩; have HB3 := Lib.hid (HB2.out.trans (hB3.mono HB2.out.size)); clear hB3 HB2; have hn := heap_alloc_new w3 (.cells #[.int .i64 0, .int .i64 0, .complex .f64 0 0] 31); have k0 := cell_of_block (j := 0) hn rfl; have k1 := cell_of_block (j := 1) hn rfl; have k2 := cell_of_block (j := 2) hn rfl; have f0 := frozen_of_block (j := 0) hn; have f1 := frozen_of_block (j := 1) hn; have f2 := frozen_of_block (j := 2) hn; clear hn))
  have HB4 := Lib.hid (HB3.out.trans ((made31 w3).mono HB3.out.size))
  obtain ⟨w4, hw4⟩ : ∃ w4, w4 = w3.alloc (.cells #[.int .i64 0, .int .i64 0, .complex .f64 0 0] 31) := ⟨_, rfl⟩
  rw [← hw4] at HB4
  rw [← hw4]
  clear hw4 k0 k1 k2 f0 f1 f2 HB3
  go_upto_region 15 with (first
    | (go_at_call 4; refine (arrayNil4 _ _).mono ?_; rintro e w5 ⟨rfl, rfl⟩)
    | (go_at_call 7; refine (getNil7 _).mono ?_; unfold zv; rintro e w6 ⟨rfl, hB6⟩; have HB6 := Lib.hid (HB4.out.trans (hB6.mono HB4.out.size)); clear hB6 HB4; have hn := heap_alloc_new w6 (.cells #[.int .i64 0, .int .i64 0, .complex .f64 0 0] 31); have k0 := cell_of_block (j := 0) hn rfl; have k1 := cell_of_block (j := 1) hn rfl; have k2 := cell_of_block (j := 2) hn rfl; have f0 := frozen_of_block (j := 0) hn; have f1 := frozen_of_block (j := 1) hn; have f2 := frozen_of_block (j := 2) hn; clear hn))
  have HB7 := Lib.hid (HB6.out.trans ((made31 w6).mono HB6.out.size))
  obtain ⟨w7, hw7⟩ : ∃ w7, w7 = w6.alloc (.cells #[.int .i64 0, .int .i64 0, .complex .f64 0 0] 31) := ⟨_, rfl⟩
  rw [← hw7] at HB7
  rw [← hw7]
  clear hw7 k0 k1 k2 f0 f1 f2 HB6
  go_wp2_with (first
    | (go_at_call 8; refine (newNil8 _).mono ?_; rintro e w8 ⟨rfl, rfl⟩)
    | (go_at_call 5; refine (countNil5 _).mono ?_; rintro e w9 ⟨rfl, rfl⟩)
    | (go_at_call 9; refine (typeNil9 _).mono ?_; rintro e w10 ⟨rfl, rfl⟩)
    | (go_at_call 10; refine (setNil10 _).mono ?_; rintro e w11 ⟨rfl, hB11⟩; have HB11 := Lib.hid (HB7.out.trans (hB11.mono HB7.out.size)); clear hB11 HB7)
    | (go_at_call 11; refine (awake11 _).mono ?_; rintro e w12 ⟨rfl, hB12⟩; have HB12 := Lib.hid (HB11.out.trans (hB12.mono HB11.out.size)); clear hB12 HB11))
  go_ret
  exact ⟨rfl, HB12.out⟩

set_option maxRecDepth 100000 in
set_option maxHeartbeats 4000000 in
theorem lawA2 (m : Nat) (hm : m ≤ 100) (i : Int) (h0 : i < 0) (w : World) : Calls Try.prog 3 #[.int .i64 m, .int .i64 i] w fun e w' => e = .returned (.bool true) ∧ Below w.heap.size w w' := by
  have i1 : (m : Int) ≤ 100 := by omega
  have i2 : ¬ (0 ≤ i) := by omega
  have i3 : (0 : Int) ≤ (m : Int) := by omega
  have hi : i < 0 ∨ (m : Int) ≤ i := .inl h0
  have hb0 := (Below.refl w.heap.size w).alloc (Nat.le_refl _) (.cells #[.slice none 0 0] 24)
  have hn0 := heap_alloc_new w (.cells #[.slice none 0 0] 24)
  have HB0 := Lib.hid hb0
  have HN0 := Lib.hid hn0
  obtain ⟨w1, hw1⟩ : ∃ w1, w1 = w.alloc (.cells #[.slice none 0 0] 24) := ⟨_, rfl⟩
  rw [← hw1] at HB0 HN0
  clear hb0 hn0
  go_enter Try.func3, Try.ntmps3
  go_upto_region 2 with (fail)
  rw [← hw1]
  clear hw1
  go_upto_region 13 with (first
    | (go_at_call 4; refine (arrayOk4 w.heap.size m hm w1 HN0.out).mono ?_; rintro e w2 ⟨rfl, hA2, hB2⟩; have HA2 := Lib.hid hA2; have HB2 := Lib.hid (HB0.out.trans hB2); clear hA2 hB2)
    | (go_at_call 6; refine (atErr6 (some ⟨w.heap.size, 0, none⟩) i 1 (.inl rfl) _ (fun W hW => placeBad15 w.heap.size m i hi W (HA2.out.below hW))).mono ?_; unfold zv; rintro e w3 ⟨rfl, hB3⟩; have HB3 := Lib.hid (HB2.out.trans (hB3.mono HB2.out.size)); clear hB3 HB2; have hn := heap_alloc_new w3 (.cells #[.int .i64 0, .int .i64 0, .complex .f64 0 0] 31); have k0 := cell_of_block (j := 0) hn rfl; have k1 := cell_of_block (j := 1) hn rfl; have k2 := cell_of_block (j := 2) hn rfl; have f0 := frozen_of_block (j := 0) hn; have f1 := frozen_of_block (j := 1) hn; have f2 := frozen_of_block (j := 2) hn; clear hn))
  have HB4 := Lib.hid (HB3.out.trans ((made31 w3).mono HB3.out.size))
  obtain ⟨w4, hw4⟩ : ∃ w4, w4 = w3.alloc (.cells #[.int .i64 0, .int .i64 0, .complex .f64 0 0] 31) := ⟨_, rfl⟩
  rw [← hw4] at HB4
  rw [← hw4]
  clear hw4 k0 k1 k2 f0 f1 f2 HB3
  go_upto_region 15 with (first
    | (go_at_call 4; refine (arrayNil4 _ _).mono ?_; rintro e w5 ⟨rfl, rfl⟩)
    | (go_at_call 7; refine (getNil7 _).mono ?_; unfold zv; rintro e w6 ⟨rfl, hB6⟩; have HB6 := Lib.hid (HB4.out.trans (hB6.mono HB4.out.size)); clear hB6 HB4; have hn := heap_alloc_new w6 (.cells #[.int .i64 0, .int .i64 0, .complex .f64 0 0] 31); have k0 := cell_of_block (j := 0) hn rfl; have k1 := cell_of_block (j := 1) hn rfl; have k2 := cell_of_block (j := 2) hn rfl; have f0 := frozen_of_block (j := 0) hn; have f1 := frozen_of_block (j := 1) hn; have f2 := frozen_of_block (j := 2) hn; clear hn))
  have HB7 := Lib.hid (HB6.out.trans ((made31 w6).mono HB6.out.size))
  obtain ⟨w7, hw7⟩ : ∃ w7, w7 = w6.alloc (.cells #[.int .i64 0, .int .i64 0, .complex .f64 0 0] 31) := ⟨_, rfl⟩
  rw [← hw7] at HB7
  rw [← hw7]
  clear hw7 k0 k1 k2 f0 f1 f2 HB6
  go_wp2_with (first
    | (go_at_call 8; refine (newNil8 _).mono ?_; rintro e w8 ⟨rfl, rfl⟩)
    | (go_at_call 5; refine (countNil5 _).mono ?_; rintro e w9 ⟨rfl, rfl⟩)
    | (go_at_call 9; refine (typeNil9 _).mono ?_; rintro e w10 ⟨rfl, rfl⟩)
    | (go_at_call 10; refine (setNil10 _).mono ?_; rintro e w11 ⟨rfl, hB11⟩; have HB11 := Lib.hid (HB7.out.trans (hB11.mono HB7.out.size)); clear hB11 HB7)
    | (go_at_call 11; refine (awake11 _).mono ?_; rintro e w12 ⟨rfl, hB12⟩; have HB12 := Lib.hid (HB11.out.trans (hB12.mono HB11.out.size)); clear hB12 HB11))
  go_ret
  exact ⟨rfl, HB12.out⟩

set_option maxRecDepth 100000 in
set_option maxHeartbeats 4000000 in
theorem lawA3 (m : Nat) (hm : m ≤ 100) (i : Int) (h0 : 0 ≤ i) (h1 : (m : Int) ≤ i) (w : World) : Calls Try.prog 3 #[.int .i64 m, .int .i64 i] w fun e w' => e = .returned (.bool true) ∧ Below w.heap.size w w' := by
  have i1 : (m : Int) ≤ 100 := by omega
  have i2 : ¬ (i < (m : Int)) := by omega
  have i3 : (0 : Int) ≤ (m : Int) := by omega
  have hi : i < 0 ∨ (m : Int) ≤ i := .inr h1
  have hb0 := (Below.refl w.heap.size w).alloc (Nat.le_refl _) (.cells #[.slice none 0 0] 24)
  have hn0 := heap_alloc_new w (.cells #[.slice none 0 0] 24)
  have HB0 := Lib.hid hb0
  have HN0 := Lib.hid hn0
  obtain ⟨w1, hw1⟩ : ∃ w1, w1 = w.alloc (.cells #[.slice none 0 0] 24) := ⟨_, rfl⟩
  rw [← hw1] at HB0 HN0
  clear hb0 hn0
  go_enter Try.func3, Try.ntmps3
  go_upto_region 2 with (fail)
  rw [← hw1]
  clear hw1
  go_upto_region 13 with (first
    | (go_at_call 4; refine (arrayOk4 w.heap.size m hm w1 HN0.out).mono ?_; rintro e w2 ⟨rfl, hA2, hB2⟩; have HA2 := Lib.hid hA2; have HB2 := Lib.hid (HB0.out.trans hB2); clear hA2 hB2)
    | (go_at_call 6; refine (atErr6 (some ⟨w.heap.size, 0, none⟩) i 1 (.inl rfl) _ (fun W hW => placeBad15 w.heap.size m i hi W (HA2.out.below hW))).mono ?_; unfold zv; rintro e w3 ⟨rfl, hB3⟩; have HB3 := Lib.hid (HB2.out.trans (hB3.mono HB2.out.size)); clear hB3 HB2; have hn := heap_alloc_new w3 (.cells #[.int .i64 0, .int .i64 0, .complex .f64 0 0] 31); have k0 := cell_of_block (j := 0) hn rfl; have k1 := cell_of_block (j := 1) hn rfl; have k2 := cell_of_block (j := 2) hn rfl; have f0 := frozen_of_block (j := 0) hn; have f1 := frozen_of_block (j := 1) hn; have f2 := frozen_of_block (j := 2) hn; clear hn))
  have HB4 := Lib.hid (HB3.out.trans ((made31 w3).mono HB3.out.size))
  obtain ⟨w4, hw4⟩ : ∃ w4, w4 = w3.alloc (.cells #[.int .i64 0, .int .i64 0, .complex .f64 0 0] 31) := ⟨_, rfl⟩
  rw [← hw4] at HB4
  rw [← hw4]
  clear hw4 k0 k1 k2 f0 f1 f2 HB3
  go_upto_region 15 with (first
    | (go_at_call 4; refine (arrayNil4 _ _).mono ?_; rintro e w5 ⟨rfl, rfl⟩)
    | (go_at_call 7; refine (getNil7 _).mono ?_; unfold zv; rintro e w6 ⟨rfl, hB6⟩; have HB6 := Lib.hid (HB4.out.trans (hB6.mono HB4.out.size)); clear hB6 HB4; have hn := heap_alloc_new w6 (.cells #[.int .i64 0, .int .i64 0, .complex .f64 0 0] 31); have k0 := cell_of_block (j := 0) hn rfl; have k1 := cell_of_block (j := 1) hn rfl; have k2 := cell_of_block (j := 2) hn rfl; have f0 := frozen_of_block (j := 0) hn; have f1 := frozen_of_block (j := 1) hn; have f2 := frozen_of_block (j := 2) hn; clear hn))
  have HB7 := Lib.hid (HB6.out.trans ((made31 w6).mono HB6.out.size))
  obtain ⟨w7, hw7⟩ : ∃ w7, w7 = w6.alloc (.cells #[.int .i64 0, .int .i64 0, .complex .f64 0 0] 31) := ⟨_, rfl⟩
  rw [← hw7] at HB7
  rw [← hw7]
  clear hw7 k0 k1 k2 f0 f1 f2 HB6
  go_wp2_with (first
    | (go_at_call 8; refine (newNil8 _).mono ?_; rintro e w8 ⟨rfl, rfl⟩)
    | (go_at_call 5; refine (countNil5 _).mono ?_; rintro e w9 ⟨rfl, rfl⟩)
    | (go_at_call 9; refine (typeNil9 _).mono ?_; rintro e w10 ⟨rfl, rfl⟩)
    | (go_at_call 10; refine (setNil10 _).mono ?_; rintro e w11 ⟨rfl, hB11⟩; have HB11 := Lib.hid (HB7.out.trans (hB11.mono HB7.out.size)); clear hB11 HB7)
    | (go_at_call 11; refine (awake11 _).mono ?_; rintro e w12 ⟨rfl, hB12⟩; have HB12 := Lib.hid (HB11.out.trans (hB12.mono HB11.out.size)); clear hB12 HB11))
  go_ret
  exact ⟨rfl, HB12.out⟩

set_option maxRecDepth 100000 in
set_option maxHeartbeats 4000000 in
theorem lawB1 (n i : Int) (h0 : n < 0) (w : World) : Calls Try.prog 3 #[.int .i64 n, .int .i64 i] w fun e w' => e = .returned (.bool true) ∧ Below w.heap.size w w' := by
  have i1 : ¬ (0 ≤ n) := by omega
  have hn : n < 0 ∨ 100 < n := .inl h0
  have hb0 := (Below.refl w.heap.size w).alloc (Nat.le_refl _) (.cells #[.slice none 0 0] 24)
  have hn0 := heap_alloc_new w (.cells #[.slice none 0 0] 24)
  have HB0 := Lib.hid hb0
  have HN0 := Lib.hid hn0
  obtain ⟨w1, hw1⟩ : ∃ w1, w1 = w.alloc (.cells #[.slice none 0 0] 24) := ⟨_, rfl⟩
  rw [← hw1] at HB0 HN0
  clear hb0 hn0
  go_enter Try.func3, Try.ntmps3
  go_upto_region 2 with (fail)
  rw [← hw1]
  clear hw1
  go_upto_region 13 with (first
    | (go_at_call 4; refine (arrayBad4 w.heap.size n hn w1).mono ?_; rintro e w2 ⟨rfl, rfl⟩; have HB2 := Lib.hid HB0.out)
    | (go_at_call 5; refine (countNone5 w.heap.size _ HN0.out).mono ?_; rintro e w2b ⟨rfl, rfl⟩)
    | (go_at_call 6; refine (atErr6 (some ⟨w.heap.size, 0, none⟩) i 11 (.inr rfl) _ (fun W hW => placeNone15 _ i W (findNone16 w.heap.size W ((hW.block _ (Array.getElem?_eq_some_iff.1 HN0.out).1).trans HN0.out)))).mono ?_; unfold zv; rintro e w3 ⟨rfl, hB3⟩; have HB3 := Lib.hid (HB2.out.trans (hB3.mono HB2.out.size)); clear hB3 HB2; have hn := heap_alloc_new w3 (.cells #[.int .i64 0, .int .i64 0, .complex .f64 0 0] 31); have k0 := cell_of_block (j := 0) hn rfl; have k1 := cell_of_block (j := 1) hn rfl; have k2 := cell_of_block (j := 2) hn rfl; have f0 := frozen_of_block (j := 0) hn; have f1 := frozen_of_block (j := 1) hn; have f2 := frozen_of_block (j := 2) hn; clear hn))
  have HB4 := Lib.hid (HB3.out.trans ((made31 w3).mono HB3.out.size))
  obtain ⟨w4, hw4⟩ : ∃ w4, w4 = w3.alloc (.cells #[.int .i64 0, .int .i64 0, .complex .f64 0 0] 31) := ⟨_, rfl⟩
  rw [← hw4] at HB4
  rw [← hw4]
  clear hw4 k0 k1 k2 f0 f1 f2 HB3
  go_upto_region 15 with (first
    | (go_at_call 4; refine (arrayNil4 _ _).mono ?_; rintro e w5 ⟨rfl, rfl⟩)
    | (go_at_call 7; refine (getNil7 _).mono ?_; unfold zv; rintro e w6 ⟨rfl, hB6⟩; have HB6 := Lib.hid (HB4.out.trans (hB6.mono HB4.out.size)); clear hB6 HB4; have hn := heap_alloc_new w6 (.cells #[.int .i64 0, .int .i64 0, .complex .f64 0 0] 31); have k0 := cell_of_block (j := 0) hn rfl; have k1 := cell_of_block (j := 1) hn rfl; have k2 := cell_of_block (j := 2) hn rfl; have f0 := frozen_of_block (j := 0) hn; have f1 := frozen_of_block (j := 1) hn; have f2 := frozen_of_block (j := 2) hn; clear hn))
  have HB7 := Lib.hid (HB6.out.trans ((made31 w6).mono HB6.out.size))
  obtain ⟨w7, hw7⟩ : ∃ w7, w7 = w6.alloc (.cells #[.int .i64 0, .int .i64 0, .complex .f64 0 0] 31) := ⟨_, rfl⟩
  rw [← hw7] at HB7
  rw [← hw7]
  clear hw7 k0 k1 k2 f0 f1 f2 HB6
  go_wp2_with (first
    | (go_at_call 8; refine (newNil8 _).mono ?_; rintro e w8 ⟨rfl, rfl⟩)
    | (go_at_call 5; refine (countNil5 _).mono ?_; rintro e w9 ⟨rfl, rfl⟩)
    | (go_at_call 9; refine (typeNil9 _).mono ?_; rintro e w10 ⟨rfl, rfl⟩)
    | (go_at_call 10; refine (setNil10 _).mono ?_; rintro e w11 ⟨rfl, hB11⟩; have HB11 := Lib.hid (HB7.out.trans (hB11.mono HB7.out.size)); clear hB11 HB7)
    | (go_at_call 11; refine (awake11 _).mono ?_; rintro e w12 ⟨rfl, hB12⟩; have HB12 := Lib.hid (HB11.out.trans (hB12.mono HB11.out.size)); clear hB12 HB11))
  go_ret
  exact ⟨rfl, HB12.out⟩

set_option maxRecDepth 100000 in
set_option maxHeartbeats 4000000 in
theorem lawB2 (n i : Int) (h0 : 0 ≤ n) (h1 : 100 < n) (w : World) : Calls Try.prog 3 #[.int .i64 n, .int .i64 i] w fun e w' => e = .returned (.bool true) ∧ Below w.heap.size w w' := by
  have i1 : ¬ (n ≤ 100) := by omega
  have hn : n < 0 ∨ 100 < n := .inr h1
  have hb0 := (Below.refl w.heap.size w).alloc (Nat.le_refl _) (.cells #[.slice none 0 0] 24)
  have hn0 := heap_alloc_new w (.cells #[.slice none 0 0] 24)
  have HB0 := Lib.hid hb0
  have HN0 := Lib.hid hn0
  obtain ⟨w1, hw1⟩ : ∃ w1, w1 = w.alloc (.cells #[.slice none 0 0] 24) := ⟨_, rfl⟩
  rw [← hw1] at HB0 HN0
  clear hb0 hn0
  go_enter Try.func3, Try.ntmps3
  go_upto_region 2 with (fail)
  rw [← hw1]
  clear hw1
  go_upto_region 13 with (first
    | (go_at_call 4; refine (arrayBad4 w.heap.size n hn w1).mono ?_; rintro e w2 ⟨rfl, rfl⟩; have HB2 := Lib.hid HB0.out)
    | (go_at_call 5; refine (countNone5 w.heap.size _ HN0.out).mono ?_; rintro e w2b ⟨rfl, rfl⟩)
    | (go_at_call 6; refine (atErr6 (some ⟨w.heap.size, 0, none⟩) i 11 (.inr rfl) _ (fun W hW => placeNone15 _ i W (findNone16 w.heap.size W ((hW.block _ (Array.getElem?_eq_some_iff.1 HN0.out).1).trans HN0.out)))).mono ?_; unfold zv; rintro e w3 ⟨rfl, hB3⟩; have HB3 := Lib.hid (HB2.out.trans (hB3.mono HB2.out.size)); clear hB3 HB2; have hn := heap_alloc_new w3 (.cells #[.int .i64 0, .int .i64 0, .complex .f64 0 0] 31); have k0 := cell_of_block (j := 0) hn rfl; have k1 := cell_of_block (j := 1) hn rfl; have k2 := cell_of_block (j := 2) hn rfl; have f0 := frozen_of_block (j := 0) hn; have f1 := frozen_of_block (j := 1) hn; have f2 := frozen_of_block (j := 2) hn; clear hn))
  have HB4 := Lib.hid (HB3.out.trans ((made31 w3).mono HB3.out.size))
  obtain ⟨w4, hw4⟩ : ∃ w4, w4 = w3.alloc (.cells #[.int .i64 0, .int .i64 0, .complex .f64 0 0] 31) := ⟨_, rfl⟩
  rw [← hw4] at HB4
  rw [← hw4]
  clear hw4 k0 k1 k2 f0 f1 f2 HB3
  go_upto_region 15 with (first
    | (go_at_call 4; refine (arrayNil4 _ _).mono ?_; rintro e w5 ⟨rfl, rfl⟩)
    | (go_at_call 7; refine (getNil7 _).mono ?_; unfold zv; rintro e w6 ⟨rfl, hB6⟩; have HB6 := Lib.hid (HB4.out.trans (hB6.mono HB4.out.size)); clear hB6 HB4; have hn := heap_alloc_new w6 (.cells #[.int .i64 0, .int .i64 0, .complex .f64 0 0] 31); have k0 := cell_of_block (j := 0) hn rfl; have k1 := cell_of_block (j := 1) hn rfl; have k2 := cell_of_block (j := 2) hn rfl; have f0 := frozen_of_block (j := 0) hn; have f1 := frozen_of_block (j := 1) hn; have f2 := frozen_of_block (j := 2) hn; clear hn))
  have HB7 := Lib.hid (HB6.out.trans ((made31 w6).mono HB6.out.size))
  obtain ⟨w7, hw7⟩ : ∃ w7, w7 = w6.alloc (.cells #[.int .i64 0, .int .i64 0, .complex .f64 0 0] 31) := ⟨_, rfl⟩
  rw [← hw7] at HB7
  rw [← hw7]
  clear hw7 k0 k1 k2 f0 f1 f2 HB6
  go_wp2_with (first
    | (go_at_call 8; refine (newNil8 _).mono ?_; rintro e w8 ⟨rfl, rfl⟩)
    | (go_at_call 5; refine (countNil5 _).mono ?_; rintro e w9 ⟨rfl, rfl⟩)
    | (go_at_call 9; refine (typeNil9 _).mono ?_; rintro e w10 ⟨rfl, rfl⟩)
    | (go_at_call 10; refine (setNil10 _).mono ?_; rintro e w11 ⟨rfl, hB11⟩; have HB11 := Lib.hid (HB7.out.trans (hB11.mono HB7.out.size)); clear hB11 HB7)
    | (go_at_call 11; refine (awake11 _).mono ?_; rintro e w12 ⟨rfl, hB12⟩; have HB12 := Lib.hid (HB11.out.trans (hB12.mono HB11.out.size)); clear hB12 HB11))
  go_ret
  exact ⟨rfl, HB12.out⟩

/-- HeapLimits holds at every pair of numbers. -/
theorem law3 (n i : Int) (w : World) : Calls Try.prog 3 #[.int .i64 n, .int .i64 i] w fun e w' => e = .returned (.bool true) ∧ Below w.heap.size w w' := by
  by_cases h0 : n < 0
  · exact lawB1 n i h0 w
  · by_cases h1 : 100 < n
    · exact lawB2 n i (by omega) h1 w
    · obtain ⟨m, rfl⟩ : ∃ m : Nat, n = m := ⟨n.toNat, by omega⟩
      by_cases h2 : i < 0
      · exact lawA2 m (by omega) i h2 w
      · by_cases h3 : (m : Int) ≤ i
        · exact lawA3 m (by omega) i (by omega) h3 w
        · obtain ⟨k, rfl⟩ : ∃ k : Nat, i = k := ⟨i.toNat, by omega⟩
          exact lawA1 m k (by omega) (by omega) w
end Go.Proofs.Ytfehgbmlbkmaoaa
