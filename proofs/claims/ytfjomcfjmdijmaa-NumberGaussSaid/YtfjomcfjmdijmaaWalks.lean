import Derived.Test.YtfjomcfjmdijmaaRows
import Derived.Test.YtfjomcfjmdijmaaRing
import Derived.Test.YtfjomcfjmdijmaaFloat
import Derived.WalkKit
import Derived.WalkLawsBesides
import Derived.Deep.QuietTactic
import Derived.BigQuiet
import Derived.Lib.Hide
namespace Go.Proofs.Ytfjomcfjmdijmaa
open Go.RowKit

theorem ret_int {a b : Int} (h : a = b) : Ending.returned (.int .i64 a) = .returned (.int .i64 b) := by rw [h]
theorem ret_bool {a b : Bool} (h : a = b) : Ending.returned (.bool a) = .returned (.bool b) := by rw [h]

theorem w64_w32 (a : Int) : wrap64 (wrap32 a) = wrap32 a := IntWalk.wrap64_in _ (by have := w_range a; omega)
theorem w32_u64 (a : Int) : wrap32 (IntKind.u64.wrap a % 4294967296) = wrap32 a := by
  unfold IntKind.wrap wrap32
  simp only [IntKind.bits, IntKind.signed, Bool.false_and, Bool.false_eq_true, if_false]
  omega

theorem tdiv_range (a b : Int) : -2147483648 ≤ (wrap32 a).tdiv (wrap32 b) ∧ (wrap32 a).tdiv (wrap32 b) ≤ 2147483648 := by
  have h : ((wrap32 a).tdiv (wrap32 b)).natAbs ≤ (wrap32 a).natAbs := by
    rw [Int.natAbs_tdiv]
    exact Nat.div_le_self _ _
  have := w_range a
  omega

theorem wrap10 (a : Int) (w : World) : Calls Try.prog 10 #[.int .i64 a] w fun e w' => e = .returned (.int .i64 (wrap32 a)) ∧ w = w' := by
  go_enter Try.func10, Try.ntmps10
  go_wp2
  go_ret
  exact ⟨ret_int (w64_w32 a), rfl⟩

theorem wrap7 (a : Int) (w : World) : Calls Try.prog 7 #[.int .i64 a] w fun e w' => e = .returned (.int .i64 (wrap32 a)) ∧ w = w' := by
  go_enter Try.func7, Try.ntmps7
  go_wp2
  go_ret
  exact ⟨ret_int (by rw [w32_u64, w64_w32]), rfl⟩

theorem add11 (a b : Int) (w : World) : Calls Try.prog 11 #[.int .i64 a, .int .i64 b] w fun e w' => e = .returned (.int .i64 (wrap32 (wrap32 a + wrap32 b))) ∧ w = w' := by
  have ha := w_range a
  have hb := w_range b
  go_enter Try.func11, Try.ntmps11
  go_wp2_with (go_at_call 10; refine (wrap10 _ _).mono ?_; rintro e w' ⟨rfl, rfl⟩)
  go_ret
  exact ⟨rfl, rfl⟩

theorem sub12 (a b : Int) (w : World) : Calls Try.prog 12 #[.int .i64 a, .int .i64 b] w fun e w' => e = .returned (.int .i64 (wrap32 (wrap32 a - wrap32 b))) ∧ w = w' := by
  have ha := w_range a
  have hb := w_range b
  go_enter Try.func12, Try.ntmps12
  go_wp2_with (go_at_call 10; refine (wrap10 _ _).mono ?_; rintro e w' ⟨rfl, rfl⟩)
  go_ret
  exact ⟨rfl, rfl⟩

theorem mul13 (a b : Int) (w : World) : Calls Try.prog 13 #[.int .i64 a, .int .i64 b] w fun e w' => e = .returned (.int .i64 (wrap32 (wrap32 a * wrap32 b))) ∧ w = w' := by
  have hb := w_mul_range a b
  go_enter Try.func13, Try.ntmps13
  go_wp2_with (go_at_call 10; refine (wrap10 _ _).mono ?_; rintro e w' ⟨rfl, rfl⟩)
  go_ret
  exact ⟨rfl, rfl⟩

theorem div8_zero (a b : Int) (w : World) (h : wrap32 b = 0) : Calls Try.prog 8 #[.int .i64 a, .int .i64 b] w fun e w' => e = .returned (.tuple #[.int .i64 0, .bool false]) ∧ w = w' := by
  go_enter Try.func8, Try.ntmps8
  go_wp2_with (go_at_call 10; refine (wrap10 _ _).mono ?_; rintro e w' ⟨rfl, rfl⟩)
  go_ret2
  exact ⟨rfl, rfl⟩

theorem div8 (a b : Int) (w : World) (h : ¬ wrap32 b = 0) : Calls Try.prog 8 #[.int .i64 a, .int .i64 b] w fun e w' => e = .returned (.tuple #[.int .i64 (wrap32 ((wrap32 a).tdiv (wrap32 b))), .bool true]) ∧ w = w' := by
  have ht := tdiv_range a b
  have h' : (wrap32 b == 0) = false := by simp [h]
  go_enter Try.func8, Try.ntmps8
  go_wp2_with (go_at_call 10; refine (wrap10 _ _).mono ?_; rintro e w' ⟨rfl, rfl⟩)
  go_ret2
  exact ⟨rfl, rfl⟩

theorem div9_zero (a b : Int) (w : World) (h : wrap32 b = 0) : Calls Try.prog 9 #[.int .i64 a, .int .i64 b] w fun e w' => e = .returned (.tuple #[.int .i64 0, .bool false]) ∧ w = w' := by
  go_enter Try.func9, Try.ntmps9
  go_wp2_with (go_at_call 7; refine (wrap7 _ _).mono ?_; rintro e w' ⟨rfl, rfl⟩)
  go_ret2
  exact ⟨rfl, rfl⟩

theorem div9 (a b : Int) (w : World) (h : ¬ wrap32 b = 0) : Calls Try.prog 9 #[.int .i64 a, .int .i64 b] w fun e w' => e = .returned (.tuple #[.int .i64 (wrap32 ((wrap32 a).tdiv (wrap32 b))), .bool true]) ∧ w = w' := by
  have ht := tdiv_range a b
  have h' : (wrap32 b == 0) = false := by simp [h]
  go_enter Try.func9, Try.ntmps9
  go_wp2_with (go_at_call 7; refine (wrap7 _ _).mono ?_; rintro e w' ⟨rfl, rfl⟩)
  go_ret2
  exact ⟨rfl, rfl⟩

theorem complex16 (a b : Int) (w : World) : Calls Try.prog 16 #[.int .i64 a, .int .i64 b] w fun e w' => e = .returned (.complex .f64 (FloatKind.f64.nearest (wrap32 a)) (FloatKind.f64.nearest (wrap32 b))) ∧ w = w' := by
  go_enter Try.func16, Try.ntmps16
  go_wp2_with (go_at_call 10; refine (wrap10 _ _).mono ?_; rintro e w' ⟨rfl, rfl⟩)
  go_ret
  exact ⟨rfl, rfl⟩

theorem rep32 (a : Int) : Rep (FloatKind.f64.nearest (wrap32 a)) (wrap32 a) 0 := rep_int _ (by have := w_range a; omega)

/-- A product of complex numbers whose parts are whole and small is exact. -/
theorem cmul17 {p q r s : Nat} {a b c d : Int} (hp : Rep p a 0) (hq : Rep q b 0) (hr : Rep r c 0) (hs : Rep s d 0)
    (h1 : (a * c).natAbs < 2 ^ 53) (h2 : (b * d).natAbs < 2 ^ 53) (h3 : (a * d).natAbs < 2 ^ 53) (h4 : (b * c).natAbs < 2 ^ 53)
    (h5 : (a * c - b * d).natAbs < 2 ^ 53) (h6 : (a * d + b * c).natAbs < 2 ^ 53) (w : World) :
    Calls Try.prog 17 #[.complex .f64 p q, .complex .f64 r s] w fun e w' => ∃ re im, e = .returned (.complex .f64 re im) ∧ Rep re (a * c - b * d) 0 ∧ Rep im (a * d + b * c) 0 ∧ w = w' := by
  obtain ⟨ac, e1, r1⟩ := rep_mul hp hr h1 (by omega)
  obtain ⟨bd, e2, r2⟩ := rep_mul hq hs h2 (by omega)
  obtain ⟨ad, e3, r3⟩ := rep_mul hp hs h3 (by omega)
  obtain ⟨bc, e4, r4⟩ := rep_mul hq hr h4 (by omega)
  obtain ⟨re, e5, r5⟩ := rep_sub r1 r2 h5 (by omega)
  obtain ⟨im, e6, r6⟩ := rep_add r3 r4 h6 (by omega)
  have o1 : ∀ t w, (binOp .mul t (.float .f64 p) (.float .f64 r)).run Try.prog w = .ok (.float .f64 ac) w := fun t w => run_float_arith w .mul t .f64 _ _ _ e1
  have o2 : ∀ t w, (binOp .mul t (.float .f64 q) (.float .f64 s)).run Try.prog w = .ok (.float .f64 bd) w := fun t w => run_float_arith w .mul t .f64 _ _ _ e2
  have o3 : ∀ t w, (binOp .mul t (.float .f64 p) (.float .f64 s)).run Try.prog w = .ok (.float .f64 ad) w := fun t w => run_float_arith w .mul t .f64 _ _ _ e3
  have o4 : ∀ t w, (binOp .mul t (.float .f64 q) (.float .f64 r)).run Try.prog w = .ok (.float .f64 bc) w := fun t w => run_float_arith w .mul t .f64 _ _ _ e4
  have o5 : ∀ t w, (binOp .sub t (.float .f64 ac) (.float .f64 bd)).run Try.prog w = .ok (.float .f64 re) w := fun t w => run_float_arith w .sub t .f64 _ _ _ e5
  have o6 : ∀ t w, (binOp .add t (.float .f64 ad) (.float .f64 bc)).run Try.prog w = .ok (.float .f64 im) w := fun t w => run_float_arith w .add t .f64 _ _ _ e6
  clear e1 e2 e3 e4 e5 e6 h1 h2 h3 h4 h5 h6
  go_enter Try.func17, Try.ntmps17
  go_wp2
  go_ret
  exact ⟨re, im, rfl, r5, r6, rfl⟩

theorem rep_zero : Rep 0 0 0 := (by decide +kernel : FloatKind.f64.nearest 0 = 0) ▸ rep_int 0 (by decide +kernel)

theorem rep_eq {p q : Nat} {a : Int} {k : Nat} (hp : Rep p a k) (hq : Rep q a k) : FloatKind.f64.format.order p q = some .eq := by
  have h := rep_order hp hq
  have e : compare a a = .eq := by simp
  rw [e] at h
  exact h

theorem awake14 (w : World) : Calls Try.prog 14 #[] w fun e w' => e = .returned (.bool true) ∧ w = w' := by
  have f1 : FloatKind.f64.nearest 2 = 4611686018427387904 := by decide +kernel
  have r2 : Rep 4611686018427387904 2 0 := f1 ▸ rep_int 2 (by decide +kernel)
  have x1 : wrap32 1 = 1 := by decide +kernel
  have d0 : ¬ wrap32 (-2) = 0 := by decide +kernel
  have r1 : Rep (FloatKind.f64.nearest (wrap32 1)) 1 0 := x1.symm ▸ rep_int 1 (by decide +kernel)
  have C := fun w => cmul17 r1 r1 r1 r1 (by decide +kernel) (by decide +kernel) (by decide +kernel) (by decide +kernel) (by decide +kernel) (by decide +kernel) w
  have D : ∀ w, Calls Try.prog 8 #[.int .i64 7, .int .i64 (-2)] w fun e w' => e = .returned (.tuple #[.int .i64 (-3), .bool true]) ∧ w = w' := by
    intro w
    have := div8 7 (-2) w d0
    rwa [show wrap32 ((wrap32 7).tdiv (wrap32 (-2))) = -3 by decide +kernel] at this
  have W : ∀ w, Calls Try.prog 10 #[.int .i64 2147483648] w fun e w' => e = .returned (.int .i64 (-2147483648)) ∧ w = w' := by
    intro w
    have := wrap10 2147483648 w
    rwa [show wrap32 2147483648 = -2147483648 by decide +kernel] at this
  have HC := Lib.hid C
  have HD := Lib.hid D
  have HW := Lib.hid W
  clear x1 d0 f1 C D W r1
  go_enter Try.func14, Try.ntmps14
  go_wp2_with fail
  refine (complex16 1 1 _).mono ?_
  rintro e w' ⟨rfl, rfl⟩
  go_wp2_with fail
  refine (HD.out _).mono ?_
  rintro e w' ⟨rfl, rfl⟩
  go_wp2_with fail
  refine (HC.out _).mono ?_
  rintro e w' ⟨re, im, rfl, h1, h2, rfl⟩
  have g1 : FloatKind.f64.format.order re 0 = some .eq := rep_eq h1 rep_zero
  have g2 : FloatKind.f64.format.order im 4611686018427387904 = some .eq := rep_eq h2 r2
  clear h1 h2 r2
  go_wp2_with fail
  refine (HW.out _).mono ?_
  rintro e w' ⟨rfl, rfl⟩
  go_wp2_with fail
  go_ret
  exact ⟨rfl, rfl⟩
end Go.Proofs.Ytfjomcfjmdijmaa
