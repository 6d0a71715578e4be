import Derived.Test.YtfehgbmlbkmaoaaDesc
namespace Go.Proofs.Ytfehgbmlbkmaoaa
open Go.RowKit Go.Maps Go.WideMaps
attribute [local go_sem] run_store_complex

set_option maxRecDepth 100000 in
theorem type19 (w : World) : Calls Try.prog 19 #[.string ⟨#[91, 73]⟩] w fun e w' => e = .returned (.bool true) ∧ w' = w := by
  go_enter Try.func19, Try.ntmps19
  go_wp2_with (go_at_call 23; refine (next23 w).mono ?_; rintro e w1 ⟨rfl, rfl⟩)
  go_ret
  exact ⟨rfl, rfl⟩

set_option maxRecDepth 100000 in
theorem elem12 (w : World) : Calls Try.prog 12 #[.string ⟨#[91, 73]⟩] w fun e w' => e = .returned (.tuple #[.string ⟨#[73]⟩, .bool true]) ∧ w' = w := by
  go_enter Try.func12, Try.ntmps12
  go_wp2_with (go_at_call 19; refine (type19 w).mono ?_; rintro e w1 ⟨rfl, rfl⟩)
  go_ret2
  exact ⟨rfl, rfl⟩

set_option maxRecDepth 100000 in
theorem kind21 (w : World) : Calls Try.prog 21 #[.string ⟨#[73]⟩] w fun e w' => e = .returned (.int .i64 0) ∧ w' = w := by
  go_enter Try.func21, Try.ntmps21
  go_wp2
  go_ret
  exact ⟨rfl, rfl⟩

set_option maxRecDepth 100000 in
theorem zero14 (w : World) : Calls Try.prog 14 #[.string ⟨#[73]⟩] w fun e w' => e = .returned (.agg #[.int .i64 0, .int .i64 0, .complex .f64 0 0]) ∧ Below w.heap.size w w' := by
  go_enter Try.func14, Try.ntmps14
  go_wp2_with (go_at_call 21; refine (kind21 _).mono ?_; rintro e w1 ⟨rfl, rfl⟩)
  refine bodyPost_ret (v := .agg #[.int .i64 0, .int .i64 0, .complex .f64 0 0]) (by simp [results, Try.results14, go_sem]) rfl ⟨rfl, (Below.refl _ w).alloc (Nat.le_refl _) _⟩
end Go.Proofs.Ytfehgbmlbkmaoaa
