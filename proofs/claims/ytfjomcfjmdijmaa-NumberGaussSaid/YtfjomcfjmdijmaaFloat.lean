import Derived.Laws.FloatArith
namespace Go.Proofs.Ytfjomcfjmdijmaa
open Ieee

theorem pow_ne {N : Nat} (h : N ≠ 0) (j : Nat) : N * 2 ^ j ≠ 0 := Nat.mul_ne_zero h (Nat.ne_of_gt (Nat.two_pow_pos j))

theorem log2_mul_pow (N j : Nat) (h : N ≠ 0) : (N * 2 ^ j).log2 = N.log2 + j := by
  induction j with
  | zero => simp
  | succ j ih =>
    rw [Nat.pow_succ, ← Nat.mul_assoc, Nat.mul_comm _ 2, Nat.log2_two_mul (pow_ne h j), ih]
    omega

theorem cut_exact (s : Bool) (M d : Nat) (hM : M ≠ 0) (h : 2 ^ d ∣ M) : Toward.even.cut s M d = M / 2 ^ d := by
  have hd : d ≤ M.log2 := (Nat.le_log2 hM).2 (Nat.le_of_dvd (by omega) h)
  have hm : min d (M.log2 + 2) = d := by omega
  have hz : M % 2 ^ d = 0 := Nat.mod_eq_zero_of_dvd h
  have hp : 0 < 2 ^ d := Nat.two_pow_pos d
  unfold Toward.cut
  rw [hm, Nat.one_shiftLeft]
  simp only [hz, Nat.mul_zero]
  have h2 : (2 ^ d == 0) = false := by simp
  simp [h2]

theorem cut_zero (s : Bool) (M d : Nat) (hd : d ≤ M.log2 + 2) : Toward.zero.cut s M d = M / 2 ^ d := by
  have hm : min d (M.log2 + 2) = d := by omega
  unfold Toward.cut
  rw [hm, Nat.one_shiftLeft]
  simp

theorem read_word (s : Bool) (r q f : Nat) (hr : r = (q + 1) * 4503599627370496 + f) (hf : f < 4503599627370496) (hq : q < 2046) :
    double.read (double.word s r) = .number s (4503599627370496 + f) (-1074 + (q : Int)) := by
  have hw : double.signWeight = 9223372036854775808 := rfl
  have hb : double.binade = 4503599627370496 := rfl
  have hi : double.infRung = 9218868437227405312 := by decide
  have hl : double.leastPlace = -1074 := by decide
  have hlt : r < 9218868437227405312 := by omega
  have e1 : double.word s r / 9223372036854775808 % 2 = (if s then 1 else 0) := by
    unfold Format.word; rw [hw]; cases s <;> simp <;> omega
  have e2 : double.word s r % 9223372036854775808 = r := by
    unfold Format.word; rw [hw]; cases s <;> simp <;> omega
  unfold Format.read
  simp only [hw, hb, hi, hl, e1, e2]
  rw [if_neg (by omega), if_pos hlt]
  have e3 : r / 4503599627370496 = q + 1 := by omega
  have e4 : r % 4503599627370496 = f := by omega
  rw [e3, e4]
  cases s <;> simp

theorem read_zero (s : Bool) : double.read (double.word s 0) = .number s 0 (-1074) := by
  cases s <;> decide

theorem nearest_read (s : Bool) (N j k : Nat) (hN : N < 2 ^ 53) (hk : k ≤ 1000) :
    ∃ j', double.read (double.nearest s (N * 2 ^ j) (-((k + j : Nat) : Int))) = .number s (N * 2 ^ j') (-((k + j' : Nat) : Int)) := by
  by_cases h0 : N = 0
  · subst h0
    refine ⟨1074 - k, ?_⟩
    unfold Format.nearest
    rw [if_pos (by simp), read_zero]
    simp only [Nat.zero_mul, Datum.number.injEq, true_and]
    omega
  · have hL : N.log2 < 53 := (Nat.log2_lt h0).2 hN
    have hlo : 2 ^ N.log2 ≤ N := Nat.log2_self_le h0
    have hhi : N < 2 ^ (N.log2 + 1) := Nat.lt_log2_self
    have hM0 : N * 2 ^ j ≠ 0 := pow_ne h0 j
    have hl : double.leastPlace = -1074 := by decide
    have hfb : double.fractionBits = 52 := rfl
    obtain ⟨e, he⟩ : ∃ e, e = 52 - N.log2 := ⟨_, rfl⟩
    have hLe : N.log2 = 52 - e := by omega
    have he52 : e ≤ 52 := by omega
    refine ⟨e, ?_⟩
    have hlast : max (-((k + j : Nat) : Int) + ((N * 2 ^ j).log2 : Int) - (double.fractionBits : Int)) double.leastPlace = -((e + k : Nat) : Int) := by
      rw [log2_mul_pow N j h0, hl, hfb]; omega
    have hkept : Toward.even.cut s ((N * 2 ^ j) <<< (-((k + j : Nat) : Int) - -((e + k : Nat) : Int)).toNat) (-((e + k : Nat) : Int) - -((k + j : Nat) : Int)).toNat = N * 2 ^ e := by
      by_cases hj : j ≤ e
      · have a1 : (-((k + j : Nat) : Int) - -((e + k : Nat) : Int)).toNat = e - j := by omega
        have a2 : (-((e + k : Nat) : Int) - -((k + j : Nat) : Int)).toNat = 0 := by omega
        rw [a1, a2, Nat.shiftLeft_eq, Nat.mul_assoc, ← Nat.pow_add, show j + (e - j) = e by omega]
        rw [cut_exact _ _ _ (pow_ne h0 e) (by simp)]
        simp
      · have a1 : (-((k + j : Nat) : Int) - -((e + k : Nat) : Int)).toNat = 0 := by omega
        have a2 : (-((e + k : Nat) : Int) - -((k + j : Nat) : Int)).toNat = j - e := by omega
        have a3 : N * 2 ^ j = N * 2 ^ e * 2 ^ (j - e) := by
          rw [Nat.mul_assoc, ← Nat.pow_add, show e + (j - e) = j by omega]
        rw [a1, a2, Nat.shiftLeft_zero, a3]
        rw [cut_exact _ _ _ (pow_ne (pow_ne h0 e) _) (Nat.dvd_mul_left _ _)]
        rw [Nat.mul_div_cancel _ (Nat.two_pow_pos _)]
    have hb1 : 4503599627370496 ≤ N * 2 ^ e := by
      have : 2 ^ (52 - e) * 2 ^ e ≤ N * 2 ^ e := Nat.mul_le_mul_right _ (by rw [← hLe]; exact hlo)
      rw [← Nat.pow_add, show 52 - e + e = 52 by omega] at this
      exact this
    have hb2 : N * 2 ^ e < 9007199254740992 := by
      have : N * 2 ^ e < 2 ^ (52 - e + 1) * 2 ^ e := (Nat.mul_lt_mul_right (Nat.two_pow_pos e)).2 (by rw [← hLe]; exact hhi)
      rw [← Nat.pow_add, show 52 - e + 1 + e = 53 by omega] at this
      exact this
    unfold Format.nearest
    rw [if_neg hM0]
    dsimp only
    rw [hlast, hkept, hl]
    have hbin : double.binade = 4503599627370496 := rfl
    have hi : double.infRung = 9218868437227405312 := by decide
    rw [hbin, hi]
    have a4 : (-((e + k : Nat) : Int) - -1074).toNat = 1074 - e - k := by omega
    rw [a4, Nat.min_eq_left (by omega)]
    rw [read_word s _ (1074 - e - k) (N * 2 ^ e - 4503599627370496) (by omega) (by omega) (by omega)]
    simp only [Datum.number.injEq, true_and]
    omega

/-- 'b' are the bits of the number n / 2 ^ k (a zero of either sign). -/
def Rep (b : Nat) (n : Int) (k : Nat) : Prop :=
  ∃ (s : Bool) (j : Nat), double.read b = .number s (n.natAbs * 2 ^ j) (-((k + j : Nat) : Int)) ∧ (n ≠ 0 → s = decide (n < 0))

theorem signed_rep (s : Bool) (n : Int) (m u : Nat) (hm : m = n.natAbs) (h : n ≠ 0 → s = decide (n < 0)) : signed s m u = n * 2 ^ u := by
  subst hm
  unfold signed
  rw [Nat.shiftLeft_eq]
  by_cases h0 : n = 0
  · subst h0; simp
  · rw [h h0]
    by_cases hn : n < 0
    · simp only [hn, decide_true, if_true]
      push_cast
      rw [← Int.neg_mul]
      congr 1
      omega
    · rw [if_neg (by simp [hn])]
      push_cast
      congr 1
      omega

theorem rep_write (s : Bool) (n : Int) (j k : Nat) (hs : n ≠ 0 → s = decide (n < 0)) (hn : n.natAbs < 2 ^ 53) (hk : k ≤ 1000) :
    Rep (double.write (.number s (n.natAbs * 2 ^ j) (-((k + j : Nat) : Int)))) n k := by
  obtain ⟨j', h⟩ := nearest_read s n.natAbs j k hn hk
  exact ⟨s, j', h, hs⟩

theorem rep_int (n : Int) (hn : n.natAbs < 2 ^ 53) : Rep (FloatKind.f64.nearest n) n 0 := by
  have h := rep_write (decide (n < 0)) n 0 0 (fun _ => rfl) hn (by omega)
  simpa [FloatKind.nearest, FloatKind.encode, FloatKind.format] using h

theorem rep_mul {a b : Nat} {m n : Int} {k l : Nat} (ha : Rep a m k) (hb : Rep b n l) (h : (m * n).natAbs < 2 ^ 53) (hk : k + l ≤ 1000) :
    ∃ r, double.mul a b = some r ∧ Rep r (m * n) (k + l) := by
  obtain ⟨s, i, ha, hs⟩ := ha
  obtain ⟨t, j, hb, ht⟩ := hb
  unfold Format.mul
  rw [ha, hb]
  refine ⟨_, rfl, ?_⟩
  have h1 : m.natAbs * 2 ^ i * (n.natAbs * 2 ^ j) = (m * n).natAbs * 2 ^ (i + j) := by
    rw [Int.natAbs_mul, Nat.pow_add]; ac_rfl
  have h2 : -((k + i : Nat) : Int) + -((l + j : Nat) : Int) = -((k + l + (i + j) : Nat) : Int) := by omega
  rw [h1, h2]
  refine rep_write _ _ _ _ ?_ h hk
  intro h0
  have m0 : m ≠ 0 := by rintro rfl; simp at h0
  have n0 : n ≠ 0 := by rintro rfl; simp at h0
  rw [hs m0, ht n0]
  by_cases x : m < 0 <;> by_cases y : n < 0
  · have := Int.mul_pos_of_neg_of_neg x y; simp [x, y]; omega
  · have := Int.mul_neg_of_neg_of_pos x (by omega : 0 < n); simp [x, y]; omega
  · have := Int.mul_neg_of_pos_of_neg (by omega : 0 < m) y; simp [x, y]; omega
  · have := Int.mul_pos (by omega : 0 < m) (by omega : 0 < n); simp [x, y]; omega

theorem sum_datum (s t : Bool) (m n : Int) (k i j : Nat) (hs : m ≠ 0 → s = decide (m < 0)) (ht : n ≠ 0 → t = decide (n < 0)) (h : (m + n).natAbs < 2 ^ 53) (hk : k ≤ 1000) :
    ∃ d, (Datum.number s (m.natAbs * 2 ^ i) (-((k + i : Nat) : Int))).sum (Datum.number t (n.natAbs * 2 ^ j) (-((k + j : Nat) : Int))) = some d ∧ Rep (double.write d) (m + n) k := by
  refine ⟨_, rfl, ?_⟩
  obtain ⟨u, hu⟩ : ∃ u, u = max i j := ⟨_, rfl⟩
  have hbase : min (-((k + i : Nat) : Int)) (-((k + j : Nat) : Int)) = -((k + u : Nat) : Int) := by omega
  have e1 : signed s (m.natAbs * 2 ^ i) (-((k + i : Nat) : Int) - -((k + u : Nat) : Int)).toNat = m * 2 ^ u := by
    have : (-((k + i : Nat) : Int) - -((k + u : Nat) : Int)).toNat = u - i := by omega
    rw [this]
    have := signed_rep s m _ u rfl hs
    rw [← this]
    unfold signed
    rw [Nat.shiftLeft_eq, Nat.shiftLeft_eq, Nat.mul_assoc, ← Nat.pow_add, show i + (u - i) = u by omega]
  have e2 : signed t (n.natAbs * 2 ^ j) (-((k + j : Nat) : Int) - -((k + u : Nat) : Int)).toNat = n * 2 ^ u := by
    have : (-((k + j : Nat) : Int) - -((k + u : Nat) : Int)).toNat = u - j := by omega
    rw [this]
    have := signed_rep t n _ u rfl ht
    rw [← this]
    unfold signed
    rw [Nat.shiftLeft_eq, Nat.shiftLeft_eq, Nat.mul_assoc, ← Nat.pow_add, show j + (u - j) = u by omega]
  have hp : (0 : Int) < 2 ^ u := by exact_mod_cast Nat.two_pow_pos u
  have e3 : (m * 2 ^ u + n * 2 ^ u) = (m + n) * 2 ^ u := by rw [Int.add_mul]
  have e4 : ((m + n) * 2 ^ u).natAbs = (m + n).natAbs * 2 ^ u := by rw [Int.natAbs_mul]; congr 1
  rw [hbase, e1, e2, e3, e4]
  refine rep_write _ _ _ _ ?_ h hk
  intro h0
  have h00 : (m + n) * 2 ^ u ≠ 0 := Int.mul_ne_zero h0 (by omega)
  rw [if_neg h00]
  by_cases x : m + n < 0
  · have := Int.mul_neg_of_neg_of_pos x hp; simp [x, this]
  · have := Int.mul_pos (by omega : 0 < m + n) hp; simp [x]; omega

theorem rep_add {a b : Nat} {m n : Int} {k : Nat} (ha : Rep a m k) (hb : Rep b n k) (h : (m + n).natAbs < 2 ^ 53) (hk : k ≤ 1000) :
    ∃ r, double.add a b = some r ∧ Rep r (m + n) k := by
  obtain ⟨s, i, ha, hs⟩ := ha
  obtain ⟨t, j, hb, ht⟩ := hb
  unfold Format.add
  rw [ha, hb]
  obtain ⟨d, hd, hr⟩ := sum_datum s t m n k i j hs ht h hk
  exact ⟨_, by rw [hd]; rfl, hr⟩

theorem rep_sub {a b : Nat} {m n : Int} {k : Nat} (ha : Rep a m k) (hb : Rep b n k) (h : (m - n).natAbs < 2 ^ 53) (hk : k ≤ 1000) :
    ∃ r, double.sub a b = some r ∧ Rep r (m - n) k := by
  obtain ⟨s, i, ha, hs⟩ := ha
  obtain ⟨t, j, hb, ht⟩ := hb
  unfold Format.sub
  rw [ha, hb]
  obtain ⟨d, hd, hr⟩ := sum_datum s (!t) m (-n) k i j hs (fun h0 => by
    rw [ht (by omega)]
    by_cases x : n < 0
    · simp [x]; omega
    · simp [x]; omega) (by rw [← Int.sub_eq_add_neg]; exact h) hk
  rw [Int.natAbs_neg] at hd
  rw [← Int.sub_eq_add_neg] at hr
  exact ⟨_, by simp only [Datum.opposite]; rw [hd]; rfl, hr⟩

theorem rep_order {a b : Nat} {m n : Int} {k : Nat} (ha : Rep a m k) (hb : Rep b n k) : double.order a b = some (compare m n) := by
  obtain ⟨s, i, ha, hs⟩ := ha
  obtain ⟨t, j, hb, ht⟩ := hb
  unfold Format.order
  rw [ha, hb]
  unfold Datum.order
  obtain ⟨u, hu⟩ : ∃ u, u = max i j := ⟨_, rfl⟩
  have hbase : min (-((k + i : Nat) : Int)) (-((k + j : Nat) : Int)) = -((k + u : Nat) : Int) := by omega
  have e1 : signed s (m.natAbs * 2 ^ i) (-((k + i : Nat) : Int) - -((k + u : Nat) : Int)).toNat = m * 2 ^ u := by
    have : (-((k + i : Nat) : Int) - -((k + u : Nat) : Int)).toNat = u - i := by omega
    rw [this]
    have := signed_rep s m _ u rfl hs
    rw [← this]
    unfold signed
    rw [Nat.shiftLeft_eq, Nat.shiftLeft_eq, Nat.mul_assoc, ← Nat.pow_add, show i + (u - i) = u by omega]
  have e2 : signed t (n.natAbs * 2 ^ j) (-((k + j : Nat) : Int) - -((k + u : Nat) : Int)).toNat = n * 2 ^ u := by
    have : (-((k + j : Nat) : Int) - -((k + u : Nat) : Int)).toNat = u - j := by omega
    rw [this]
    have := signed_rep t n _ u rfl ht
    rw [← this]
    unfold signed
    rw [Nat.shiftLeft_eq, Nat.shiftLeft_eq, Nat.mul_assoc, ← Nat.pow_add, show j + (u - j) = u by omega]
  have hp : (0 : Int) < 2 ^ u := by exact_mod_cast Nat.two_pow_pos u
  simp only [hbase, e1, e2]
  congr 1
  show compareOfLessAndEq _ _ = compareOfLessAndEq _ _
  unfold compareOfLessAndEq
  have l1 : m * 2 ^ u < n * 2 ^ u ↔ m < n := Int.mul_lt_mul_right hp
  have l2 : m * 2 ^ u = n * 2 ^ u ↔ m = n := ⟨fun h => Int.eq_of_mul_eq_mul_right (by omega) h, fun h => by rw [h]⟩
  simp only [l1, l2]

theorem rep_toInt {a : Nat} {n : Int} {k : Nat} (ha : Rep a n k) : (double.read a).toInt .zero = some (n.tdiv (2 ^ k)) := by
  obtain ⟨s, j, ha, hs⟩ := ha
  rw [ha]
  unfold Datum.toInt Datum.integral
  have a1 : (-((k + j : Nat) : Int)).toNat = 0 := by omega
  have a2 : (- -((k + j : Nat) : Int)).toNat = k + j := by omega
  simp only [a1, a2, Nat.shiftLeft_zero]
  have hc : Toward.zero.cut s (n.natAbs * 2 ^ j) (k + j) = n.natAbs / 2 ^ k := by
    by_cases hd : k + j ≤ (n.natAbs * 2 ^ j).log2 + 2
    · rw [cut_zero _ _ _ hd, Nat.pow_add, Nat.mul_div_mul_right _ _ (Nat.two_pow_pos j)]
    · have hlt : n.natAbs * 2 ^ j < 2 ^ ((n.natAbs * 2 ^ j).log2 + 1) := Nat.lt_log2_self
      have h1 : n.natAbs * 2 ^ j < 2 ^ (k + j) := Nat.lt_of_lt_of_le hlt (Nat.pow_le_pow_right (by omega) (by omega))
      have h2 : n.natAbs < 2 ^ k := by
        rw [Nat.pow_add] at h1
        exact Nat.lt_of_mul_lt_mul_right h1
      rw [Nat.div_eq_of_lt h2]
      unfold Toward.cut
      rw [Nat.min_eq_right (by omega), Nat.one_shiftLeft]
      have hq : n.natAbs * 2 ^ j < 2 ^ ((n.natAbs * 2 ^ j).log2 + 2) := Nat.lt_of_lt_of_le hlt (Nat.pow_le_pow_right (by omega) (by omega))
      simp only [Nat.div_eq_of_lt hq]
      rfl
  rw [hc]
  congr 1
  unfold signed
  rw [Nat.shiftLeft_zero]
  have hp : (0 : Int) < 2 ^ k := by exact_mod_cast Nat.two_pow_pos k
  by_cases h0 : n = 0
  · subst h0; simp
  · rw [hs h0]
    by_cases hn : n < 0
    · simp only [hn, decide_true, if_true]
      have : n = -((n.natAbs : Nat) : Int) := by omega
      conv => rhs; rw [this]
      rw [Int.neg_tdiv, Int.tdiv_eq_ediv_of_nonneg (by omega)]
      push_cast
      rfl
    · simp only [hn, decide_false, Bool.false_eq_true, if_false]
      have : n = ((n.natAbs : Nat) : Int) := by omega
      conv => rhs; rw [this]
      rw [Int.tdiv_eq_ediv_of_nonneg (by omega)]
      push_cast
      rfl
end Go.Proofs.Ytfjomcfjmdijmaa
