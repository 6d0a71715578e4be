import Derived.Test.YtfjomcfjmdijmaaWalks
import Derived.Tactics
namespace Go.Proofs.Ytfjomcfjmdijmaa
open Go.RowKit

theorem isNaN19 {p : Nat} {n : Int} {k : Nat} (hp : Rep p n k) (w : World) : Calls Try.prog 19 #[.float .f64 p] w fun e w' => e = .returned (.bool false) ∧ w = w' := by
  have h := rep_eq hp hp
  clear hp
  go_enter Try.func19, Try.ntmps19
  go_wp2
  go_ret
  exact ⟨rfl, rfl⟩

theorem cmp_lt {a b : Int} (h : a < b) : compare a b = .lt := Int.compare_eq_lt.2 h
theorem cmp_gt {a b : Int} (h : b < a) : compare a b = .gt := Int.compare_eq_gt.2 h

theorem order_lt {p q : Nat} {a b : Int} {k : Nat} (hp : Rep p a k) (hq : Rep q b k) (h : a < b) : FloatKind.f64.format.order p q = some .lt := by
  have := rep_order hp hq
  rw [cmp_lt h] at this
  exact this
theorem order_gt {p q : Nat} {a b : Int} {k : Nat} (hp : Rep p a k) (hq : Rep q b k) (h : b < a) : FloatKind.f64.format.order p q = some .gt := by
  have := rep_order hp hq
  rw [cmp_gt h] at this
  exact this

/-- The real part within 32 binary digits is cut toward nothing. -/
theorem real15 {p q : Nat} {n L : Int} {k : Nat} (hp : Rep p n k) (hl : Rep 13970166044103278592 (-L) k) (hh : Rep 4746794007248502784 L k) (h1 : -L ≤ n) (h2 : n < L)
    (hb : -9223372036854775808 ≤ n.tdiv (2 ^ k) ∧ n.tdiv (2 ^ k) ≤ 9223372036854775807) (w : World) :
    Calls Try.prog 15 #[.complex .f64 p q] w fun e w' => e = .returned (.int .i64 (n.tdiv (2 ^ k))) ∧ w = w' := by
  have o2 := order_lt hp hh h2
  have o1 : FloatKind.f64.format.order p 13970166044103278592 = some .gt ∨ FloatKind.f64.format.order p 13970166044103278592 = some .eq := by
    rcases Int.lt_or_eq_of_le h1 with h | h
    · exact .inl (order_gt hp hl h)
    · exact .inr (rep_eq (h ▸ hp) hl)
  have cv : ∀ w, (convert 29 3 (.float .f64 p)).run Try.prog w = .ok (.int .i64 (n.tdiv (2 ^ k))) w := fun w =>
    run_convert_float_int w 29 3 .f64 .i64 p _ (by rw [Try.underlying29]; rfl) Try.underlying3 (by
      have ht : (FloatKind.f64.decode p).toInt .zero = some (n.tdiv (2 ^ k)) := rep_toInt hp
      unfold floatToIntVal
      rw [ht]
      simp only [IntKind.min, IntKind.max, IntKind.signed, IntKind.bits, if_true]
      rw [if_pos (by omega)])
  have HN := Lib.hid (fun w => isNaN19 hp w)
  clear hp hl hh h1 h2
  generalize n.tdiv (2 ^ k) = r at *
  clear hb
  rcases o1 with o1 | o1
  all_goals
    go_enter Try.func15, Try.ntmps15
    go_wp2_with (go_at_call 19; refine (HN.out _).mono ?_; rintro e w' ⟨rfl, rfl⟩)
    go_ret
    exact ⟨rfl, rfl⟩

/-- Beyond, it is 0. -/
theorem real15_over {p q : Nat} {n L : Int} {k : Nat} (hp : Rep p n k) (hl : Rep 13970166044103278592 (-L) k) (hh : Rep 4746794007248502784 L k) (h0 : 0 < L) (h2 : L ≤ n) (w : World) :
    Calls Try.prog 15 #[.complex .f64 p q] w fun e w' => e = .returned (.int .i64 0) ∧ w = w' := by
  have o1 := order_gt hp hl (by omega)
  have o2 : FloatKind.f64.format.order p 4746794007248502784 = some .gt ∨ FloatKind.f64.format.order p 4746794007248502784 = some .eq := by
    rcases Int.lt_or_eq_of_le h2 with h | h
    · exact .inl (order_gt hp hh h)
    · exact .inr (rep_eq (h ▸ hp) hh)
  have HN := Lib.hid (fun w => isNaN19 hp w)
  clear hp hl hh h0 h2
  rcases o2 with o2 | o2
  all_goals
    go_enter Try.func15, Try.ntmps15
    go_wp2_with (go_at_call 19; refine (HN.out _).mono ?_; rintro e w' ⟨rfl, rfl⟩)
    go_ret
    exact ⟨rfl, rfl⟩

theorem low0 : Rep 13970166044103278592 (-2147483648) 0 := ⟨true, 21, by decide, by decide⟩
theorem high0 : Rep 4746794007248502784 2147483648 0 := ⟨false, 21, by decide, by decide⟩
theorem low3 : Rep 13970166044103278592 (-17179869184) 3 := ⟨true, 18, by decide, by decide⟩
theorem high3 : Rep 4746794007248502784 17179869184 3 := ⟨false, 18, by decide, by decide⟩

theorem read_mag {b : Nat} {s : Bool} {m : Nat} {p : Int} (h : Ieee.double.read b = .number s m p) : p = -1074 ∨ 4503599627370496 ≤ m := by
  have hb : Ieee.double.binade = 4503599627370496 := rfl
  have hl : Ieee.double.leastPlace = -1074 := by decide
  unfold Ieee.Format.read at h
  rw [hb, hl] at h
  dsimp only at h
  split at h
  · cases h; exact .inl rfl
  · split at h
    · cases h; exact .inr (Nat.le_add_right _ _)
    · split at h <;> cases h

/-- A whole number in eighths. -/
theorem rep_eighths {b : Nat} {n : Int} (hb : Rep b n 0) (h : n.natAbs < 2 ^ 40) : Rep b (n * 8) 3 := by
  obtain ⟨s, j, hr, hs⟩ := hb
  have hj : 3 ≤ j := by
    rcases read_mag hr with e | e
    · omega
    · apply Classical.byContradiction
      intro hlt
      have h3 : 2 ^ j ≤ 2 ^ 2 := Nat.pow_le_pow_right (by omega) (by omega)
      have := Nat.mul_le_mul (Nat.le_of_lt h) h3
      have e2 : (2 : Nat) ^ 40 * 2 ^ 2 = 4398046511104 := by decide
      omega
  refine ⟨s, j - 3, ?_, ?_⟩
  · rw [hr]
    have e1 : (n * 8).natAbs * 2 ^ (j - 3) = n.natAbs * 2 ^ j := by
      rw [Int.natAbs_mul, Nat.mul_assoc]
      congr 1
      have : (Int.natAbs 8) = 2 ^ 3 := rfl
      rw [this, ← Nat.pow_add, show 3 + (j - 3) = j by omega]
    rw [e1]
    congr 2
    omega
  · intro h0
    have hn : n ≠ 0 := by omega
    rw [hs hn]
    by_cases x : n < 0
    · have : n * 8 < 0 := by omega
      simp [x, this]
    · have : ¬ n * 8 < 0 := by omega
      simp [x, this]

/-- So many eighths, as the Go text makes them. -/
theorem eighths (m : Int) (h0 : 0 ≤ m) (h8 : m < 8) : ∃ f, floatBits .quo .f64 (FloatKind.f64.nearest m) 4620693217682128896 = some f ∧ Rep f m 3 := by
  have h : m = 0 ∨ m = 1 ∨ m = 2 ∨ m = 3 ∨ m = 4 ∨ m = 5 ∨ m = 6 ∨ m = 7 := by omega
  rcases h with rfl | rfl | rfl | rfl | rfl | rfl | rfl | rfl
  · exact ⟨0, by decide +kernel, rep_eighths (n := 0) rep_zero (by decide)⟩
  · exact ⟨0x3fc0000000000000, by decide +kernel, false, 52, by decide +kernel, by decide⟩
  · exact ⟨0x3fd0000000000000, by decide +kernel, false, 51, by decide +kernel, by decide⟩
  · exact ⟨0x3fd8000000000000, by decide +kernel, false, 51, by decide +kernel, by decide⟩
  · exact ⟨0x3fe0000000000000, by decide +kernel, false, 50, by decide +kernel, by decide⟩
  · exact ⟨0x3fe4000000000000, by decide +kernel, false, 50, by decide +kernel, by decide⟩
  · exact ⟨0x3fe8000000000000, by decide +kernel, false, 50, by decide +kernel, by decide⟩
  · exact ⟨0x3fec000000000000, by decide +kernel, false, 50, by decide +kernel, by decide⟩

/-- Cut toward nothing. -/
theorem cut_eighths (x m : Int) (h0 : 0 ≤ m) (h8 : m < 8) : (x * 8 + m).tdiv (2 ^ 3) = if x < 0 ∧ 0 < m then x + 1 else x := by
  have e : (2 : Int) ^ 3 = 8 := rfl
  rw [e]
  by_cases h : 0 ≤ x * 8 + m
  · rw [Int.tdiv_eq_ediv_of_nonneg h]
    split <;> omega
  · have e2 : x * 8 + m = -(-(x * 8 + m)) := by omega
    rw [e2, Int.neg_tdiv, Int.tdiv_eq_ediv_of_nonneg (by omega)]
    split <;> omega
end Go.Proofs.Ytfjomcfjmdijmaa
