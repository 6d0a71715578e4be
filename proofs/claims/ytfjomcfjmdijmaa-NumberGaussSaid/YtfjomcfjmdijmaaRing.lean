import Derived.WalkKit
namespace Go.Proofs.Ytfjomcfjmdijmaa
open Go.RowKit

theorem w_add (x m : Int) : wrap32 (x + 4294967296 * m) = wrap32 x := by unfold wrap32; omega
theorem w_form (a : Int) : ∃ k, wrap32 a = a + 4294967296 * k := ⟨-((a + 2147483648) / 4294967296), by unfold wrap32; omega⟩
theorem w_range (a : Int) : -2147483648 ≤ wrap32 a ∧ wrap32 a ≤ 2147483647 := by unfold wrap32; omega
theorem w_id (a : Int) (h : -2147483648 ≤ a) (h' : a ≤ 2147483647) : wrap32 a = a := by unfold wrap32; omega
theorem w_w (a : Int) : wrap32 (wrap32 a) = wrap32 a := w_id _ (w_range a).1 (w_range a).2
theorem w_addw (a b : Int) : wrap32 (wrap32 a + wrap32 b) = wrap32 (a + b) := by
  obtain ⟨k, hk⟩ := w_form a
  obtain ⟨l, hl⟩ := w_form b
  rw [hk, hl, show a + 4294967296 * k + (b + 4294967296 * l) = a + b + 4294967296 * (k + l) by omega, w_add]
theorem w_subw (a b : Int) : wrap32 (wrap32 a - wrap32 b) = wrap32 (a - b) := by
  obtain ⟨k, hk⟩ := w_form a
  obtain ⟨l, hl⟩ := w_form b
  rw [hk, hl, show a + 4294967296 * k - (b + 4294967296 * l) = a - b + 4294967296 * (k - l) by omega, w_add]
theorem w_mulw (a b : Int) : wrap32 (wrap32 a * wrap32 b) = wrap32 (a * b) := by
  obtain ⟨k, hk⟩ := w_form a
  obtain ⟨l, hl⟩ := w_form b
  have e : (a + 4294967296 * k) * (b + 4294967296 * l) = a * b + 4294967296 * (a * l + k * b + 4294967296 * (k * l)) := by
    simp only [Int.add_mul, Int.mul_add, Int.mul_assoc, Int.add_assoc]
    simp only [Int.mul_left_comm _ (4294967296 : Int), ← Int.mul_assoc]
    omega
  rw [hk, hl, e, w_add]
theorem w_mul_range (a b : Int) : -4611686018427387904 ≤ wrap32 a * wrap32 b ∧ wrap32 a * wrap32 b ≤ 4611686018427387904 := by
  have ha := w_range a
  have hb := w_range b
  have h : (wrap32 a * wrap32 b).natAbs ≤ 2147483648 * 2147483648 := by
    rw [Int.natAbs_mul]
    exact Nat.mul_le_mul (by omega) (by omega)
  omega

theorem ring_comm_add (a b : Int) : wrap32 (wrap32 a + wrap32 b) = wrap32 (wrap32 b + wrap32 a) := by rw [Int.add_comm]
theorem ring_comm_mul (a b : Int) : wrap32 (wrap32 a * wrap32 b) = wrap32 (wrap32 b * wrap32 a) := by rw [Int.mul_comm]
theorem ring_distrib (a b c : Int) : wrap32 (wrap32 a * wrap32 (wrap32 (wrap32 b + wrap32 c))) = wrap32 (wrap32 (wrap32 (wrap32 a * wrap32 b)) + wrap32 (wrap32 (wrap32 a * wrap32 c))) := by
  rw [w_w, w_w, w_w, w_addw, w_mulw, w_mulw, w_mulw, w_addw, Int.mul_add]
theorem ring_back (a b : Int) : wrap32 (wrap32 (wrap32 (wrap32 a + wrap32 b)) - wrap32 b) = wrap32 a := by
  rw [w_w, w_addw, w_subw]; congr 1; omega

/-- What is left of a quotient. -/
theorem ring_left (x y : Int) (hy : -2147483648 ≤ y ∧ y ≤ 2147483647) (h0 : y ≠ 0) :
    let r := wrap32 (x - wrap32 (wrap32 (x.tdiv y) * y))
    (r < 0 ∧ (r > y ∨ r > -y)) ∨ (r ≥ 0 ∧ (r < y ∨ r < -y)) := by
  intro r
  obtain ⟨k, hk⟩ := w_form (x.tdiv y)
  obtain ⟨l, hl⟩ := w_form ((x.tdiv y + 4294967296 * k) * y)
  have hr : r = wrap32 (x - x.tdiv y * y) := by
    show wrap32 (x - wrap32 (wrap32 (x.tdiv y) * y)) = _
    rw [hk, hl]
    rw [show x - ((x.tdiv y + 4294967296 * k) * y + 4294967296 * l) = x - x.tdiv y * y + 4294967296 * (-(k * y) - l) by
      rw [Int.add_mul, Int.mul_assoc]; omega]
    rw [w_add]
  have hm : x - x.tdiv y * y = x.tmod y := by
    have := Int.mul_tdiv_add_tmod x y
    rw [Int.mul_comm] at this
    omega
  have hb : (x.tmod y).natAbs < y.natAbs := by
    rw [Int.natAbs_tmod]
    exact Nat.mod_lt _ (by omega)
  rw [hm, w_id _ (by omega) (by omega)] at hr
  rw [hr]
  omega
end Go.Proofs.Ytfjomcfjmdijmaa
