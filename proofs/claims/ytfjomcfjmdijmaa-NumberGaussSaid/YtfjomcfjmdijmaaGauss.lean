/- NumberGauss: complex numbers of whole parts between -999 and 999 (any ints, taken modulo 1000) multiply and add as whole numbers do, the real part is told, and 4 times so many (0 to 100) turns of i are one again. No condition. -/
import Derived.Test.YtfjomcfjmdijmaaRows
import Derived.WalkKit
import Derived.ProofKit
import Derived.OpenShut
import Derived.Test.YtfjomcfjmdijmaaReal
namespace Go.Proofs.Ytfjomcfjmdijmaa
open Go.ChangeShapes Go.WideShapes Go.ChangeAt Go.RowKit
set_option linter.unusedVariables false      -- a walk need not use every 'w<i>' (that an integer argument fits its kind)

theorem own : ownKnob Try.prog.godebug = none := by kernel_rfl

/-! ### STEP 1: THE WALK: the Go text returns true. 'Grown w w'': the world has at most new blocks (Derived/RowKit3.lean). Part the cases AHEAD of 'go_enter' where a test parts the walk; take each callee by a contract of your own. -/
/-- So many turns of i. -/
def rot (a b : Int) : Nat → Int × Int
  | 0 => (a, b)
  | k + 1 => (-(rot a b k).2, (rot a b k).1)

theorem rot_four (a b : Int) (k : Nat) : rot a b (k + 4) = rot a b k := by
  simp only [rot]
  rw [Int.neg_neg, Int.neg_neg]

theorem rot_round (a b : Int) (n : Nat) : rot a b (4 * n) = (a, b) := by
  induction n with
  | zero => rfl
  | succ n ih => rw [show 4 * (n + 1) = 4 * n + 4 by omega, rot_four, ih]

theorem rot_small (a b : Int) (ha : -1000 < a ∧ a < 1000) (hb : -1000 < b ∧ b < 1000) (k : Nat) :
    (-1000 < (rot a b k).1 ∧ (rot a b k).1 < 1000) ∧ (-1000 < (rot a b k).2 ∧ (rot a b k).2 < 1000) := by
  induction k with
  | zero => exact ⟨ha, hb⟩
  | succ k ih => simp only [rot]; omega

theorem small16 (a b : Int) (ha : -2147483648 ≤ a ∧ a ≤ 2147483647) (hb : -2147483648 ≤ b ∧ b ≤ 2147483647) (w : World) :
    Calls Try.prog 16 #[.int .i64 a, .int .i64 b] w fun e w' => e = .returned (.complex .f64 (FloatKind.f64.nearest a) (FloatKind.f64.nearest b)) ∧ w = w' := by
  have := complex16 a b w
  rwa [w_id a ha.1 ha.2, w_id b hb.1 hb.2] at this

theorem cadd18 {p q r s : Nat} {a b c d : Int} (hp : Rep p a 0) (hq : Rep q b 0) (hr : Rep r c 0) (hs : Rep s d 0)
    (h1 : (a + c).natAbs < 2 ^ 53) (h2 : (b + d).natAbs < 2 ^ 53) (w : World) :
    Calls Try.prog 18 #[.complex .f64 p q, .complex .f64 r s] w fun e w' => ∃ re im, e = .returned (.complex .f64 re im) ∧ Rep re (a + c) 0 ∧ Rep im (b + d) 0 ∧ w = w' := by
  obtain ⟨re, e1, r1⟩ := rep_add hp hr h1 (by omega)
  obtain ⟨im, e2, r2⟩ := rep_add hq hs h2 (by omega)
  have o1 : ∀ t w, (binOp .add t (.float .f64 p) (.float .f64 r)).run Try.prog w = .ok (.float .f64 re) w := fun t w => run_float_arith w .add t .f64 _ _ _ e1
  have o2 : ∀ t w, (binOp .add t (.float .f64 q) (.float .f64 s)).run Try.prog w = .ok (.float .f64 im) w := fun t w => run_float_arith w .add t .f64 _ _ _ e2
  clear e1 e2 h1 h2
  go_enter Try.func18, Try.ntmps18
  go_wp2
  go_ret
  exact ⟨re, im, rfl, r1, r2, rfl⟩

theorem prod_small {a b : Int} (ha : -1000 < a ∧ a < 1000) (hb : -1000 < b ∧ b < 1000) : -1000000 ≤ a * b ∧ a * b ≤ 1000000 := by
  have h : (a * b).natAbs ≤ 1000 * 1000 := by
    rw [Int.natAbs_mul]
    exact Nat.mul_le_mul (by omega) (by omega)
  omega

set_option maxHeartbeats 1000000 in
/-- The road to the loop: 'turns' from 0 to 100, or not. -/
theorem ways (a0 a1 a2 a3 n a b c d : Int) (ea : a0.tmod 1000 = a) (eb : a1.tmod 1000 = b) (ec : a2.tmod 1000 = c) (ed : a3.tmod 1000 = d) (w : World) :
    Calls Try.prog 6 #[.int .i64 a0, .int .i64 a1, .int .i64 a2, .int .i64 a3, .int .i64 n] w fun e w' => e = .returned (.bool true) ∧ Grown w w' := by
  have sm : ∀ x y : Int, x.tmod 1000 = y → -1000 < y ∧ y < 1000 := by
    intro x y h
    have e : (x.tmod 1000).natAbs = x.natAbs % 1000 := Int.natAbs_tmod x 1000
    rw [h] at e
    omega
  have ha := sm _ _ ea
  have hb := sm _ _ eb
  have hc := sm _ _ ec
  have hd := sm _ _ ed
  clear sm
  have hac := prod_small ha hc
  have hbd := prod_small hb hd
  have had := prod_small ha hd
  have hbc := prod_small hb hc
  have ra : Rep (FloatKind.f64.nearest a) a 0 := rep_int a (by omega)
  have rb : Rep (FloatKind.f64.nearest b) b 0 := rep_int b (by omega)
  have rc : Rep (FloatKind.f64.nearest c) c 0 := rep_int c (by omega)
  have rd : Rep (FloatKind.f64.nearest d) d 0 := rep_int d (by omega)
  have C1 := Lib.hid (fun w => cmul17 ra rb rc rd (by omega) (by omega) (by omega) (by omega) (by omega) (by omega) w)
  have C2 := Lib.hid (fun w => cadd18 ra rb rc rd (by omega) (by omega) w)
  have C3 := Lib.hid (fun w => real15 (q := FloatKind.f64.nearest b) ra low0 high0 (by omega) (by omega) (by rw [show (2 : Int) ^ 0 = 1 from rfl, Int.tdiv_one]; omega) w)
  have R1 : Rep (FloatKind.f64.nearest (a * c - b * d)) (a * c - b * d) 0 := rep_int _ (by omega)
  have R2 : Rep (FloatKind.f64.nearest (a * d + b * c)) (a * d + b * c) 0 := rep_int _ (by omega)
  have R3 : Rep (FloatKind.f64.nearest (a + c)) (a + c) 0 := rep_int _ (by omega)
  have R4 : Rep (FloatKind.f64.nearest (b + d)) (b + d) 0 := rep_int _ (by omega)
  have RA := Lib.hid ra
  have RB := Lib.hid rb
  clear ra rb rc rd
  go_enter Try.func6, Try.ntmps6
  go_wp2_with fail
  refine (small16 a b (by omega) (by omega) _).mono ?_
  rintro e w' ⟨rfl, rfl⟩
  go_wp2_with fail
  refine (small16 c d (by omega) (by omega) _).mono ?_
  rintro e w' ⟨rfl, rfl⟩
  go_wp2_with fail
  refine (C1.out _).mono ?_
  rintro e w' ⟨re, im, rfl, q1, q2, rfl⟩
  have g1 := rep_eq q1 R1
  have g2 := rep_eq q2 R2
  clear q1 q2
  go_wp2_with fail
  refine (small16 _ _ (by omega) (by omega) _).mono ?_
  rintro e w' ⟨rfl, rfl⟩
  go_wp2_with fail
  refine (C2.out _).mono ?_
  rintro e w' ⟨re2, im2, rfl, q1, q2, rfl⟩
  have g3 := rep_eq q1 R3
  have g4 := rep_eq q2 R4
  clear q1 q2
  go_wp2_with fail
  refine (small16 _ _ (by omega) (by omega) _).mono ?_
  rintro e w' ⟨rfl, rfl⟩
  go_wp2_with fail
  refine (C3.out _).mono ?_
  rintro e w' ⟨rfl, rfl⟩
  rw [show (2 : Int) ^ 0 = 1 from rfl, Int.tdiv_one]
  clear C1 C2 C3 R1 R2 R3 R4
  by_cases h1 : n < 0
  · go_wp2_with (go_at_call 14; refine (awake14 _).mono ?_; rintro e w' ⟨rfl, rfl⟩)
    go_ret
    exact ⟨rfl, Grown.refl _⟩
  · by_cases h2 : 100 < n
    · go_wp2_with (go_at_call 14; refine (awake14 _).mono ?_; rintro e w' ⟨rfl, rfl⟩)
      go_ret
      exact ⟨rfl, Grown.refl _⟩
    · obtain ⟨m, rfl⟩ := Int.eq_ofNat_of_zero_le (Int.not_lt.1 h1)
      go_wp2_with fail
      go_loop [13, 14] (fun z i => ∃ (k z1 z2 : Nat), k ≤ 4 * m ∧ i = .int .i64 k ∧ z = .complex .f64 z1 z2 ∧ Rep z1 (rot a b k).1 0 ∧ Rep z2 (rot a b k).2 0) (fun _ i => 4 * m - (intOf i).toNat)
      case atStart => exact ⟨0, _, _, Nat.zero_le _, rfl, rfl, RA.out, RB.out⟩
      case round =>
        obtain ⟨k, z1, z2, hk, rfl, rfl, hz1, hz2⟩ := hrel
        by_cases hlt : k < 4 * m
        · have hs := rot_small a b ha hb k
          have one : Rep (FloatKind.f64.nearest 1) 1 0 := rep_int 1 (by decide)
          have nul : Rep (FloatKind.f64.nearest 0) 0 0 := rep_int 0 (by decide)
          have C := Lib.hid (fun w => cmul17 hz1 hz2 nul one (by omega) (by omega) (by omega) (by omega) (by omega) (by omega) w)
          have H1 := Lib.hid hz1
          have H2 := Lib.hid hz2
          clear hz1 hz2 one nul hs
          go_wp2_with fail
          refine (small16 0 1 (by omega) (by omega) _).mono ?_
          rintro e w' ⟨rfl, rfl⟩
          go_wp2_with fail
          refine (C.out _).mono ?_
          rintro e w' ⟨re, im, rfl, q1, q2, rfl⟩
          have H3 := Lib.hid q1
          have H4 := Lib.hid q2
          clear q1 q2 C
          go_wp2_with fail
          go_round
          case rel =>
            refine ⟨k + 1, re, im, by omega, by go_num, rfl, ?_, ?_⟩
            · have := H3.out
              simp only [rot]
              rwa [Int.mul_zero, Int.mul_one, Int.zero_sub] at this
            · have := H4.out
              simp only [rot]
              rwa [Int.mul_zero, Int.mul_one, Int.add_zero] at this
          case measure => simp [intOf]; omega
        · obtain rfl : k = 4 * m := by omega
          rw [rot_round] at hz1 hz2
          have g5 := rep_eq hz1 RA.out
          have g6 := rep_eq hz2 RB.out
          clear hz1 hz2
          go_wp2_with (go_at_call 14; refine (awake14 _).mono ?_; rintro e w' ⟨rfl, rfl⟩)
          go_ret
          exact ⟨rfl, Grown.refl _⟩

theorem walk (a0 : Int) (a1 : Int) (a2 : Int) (a3 : Int) (a4 : Int) (w0 : (Lit.int .i64 a0).wf = true) (w1 : (Lit.int .i64 a1).wf = true) (w2 : (Lit.int .i64 a2).wf = true) (w3 : (Lit.int .i64 a3).wf = true) (w4 : (Lit.int .i64 a4).wf = true) (w : World) :
    Calls Try.prog 6 #[.int .i64 a0, .int .i64 a1, .int .i64 a2, .int .i64 a3, .int .i64 a4] w fun e w' => e = .returned (.bool true) ∧ Grown w w' :=
  ways a0 a1 a2 a3 a4 _ _ _ _ rfl rfl rfl rfl w

/-! ### THE ROW's STEP: WRITTEN OUT: LEAVE IT -/
set_option maxRecDepth 100000 in
theorem lifted (os : Os) (started : os.Started) (H : Type) (enc : TypeId × Value → H) :
    ReturnsInHanded {} Try.checked os 6 .any (Rows.numberGaussSpec.pre6 enc Try.prog Try.f6 Rows.numberGaussRow.domain false) (Rows.numberGaussSpec.post enc Try.prog Try.f6 false true false false) := by
  refine returnsInHanded_of_change (C := Try.checked) own started (by kernel_rfl) Try.func6
    (ChangeSpec.witness6 (enc := enc) (C := Try.checked) false ⟨#[], #[.int .i64 0, .int .i64 0, .int .i64 0, .int .i64 0, .int .i64 0], []⟩ 8 (by kernel_rfl) (by kernel_rfl) (by kernel_rfl) (by kernel_rfl)) ?_
  intro W base args ds gs before hval0 hW hcnd _
  have hval : ∀ (j : Nat) t v, Try.f6.params[j]? = some t → args[j]? = some v → Value.okWide Try.prog W .any base t v := hval0
  have hW' := hW
  obtain ⟨p, q, hA0, hV, rfl, hfz, hnd⟩ := hW
  have hA : DataW.TrodAll enc Try.prog W 0 (fun _ => true) true Try.f6.params.toList args.toList ds p := hA0
  rw [Try.params6] at hA hval
  obtain ⟨v0, vs0, d0, ds0, p0, q0, hargs, rfl, rfl, h0, r0⟩ := trodAll_cons hA
  obtain ⟨v1, vs1, d1, ds1, p1, q1, rfl, rfl, rfl, h1, r1⟩ := trodAll_cons r0
  obtain ⟨v2, vs2, d2, ds2, p2, q2, rfl, rfl, rfl, h2, r2⟩ := trodAll_cons r1
  obtain ⟨v3, vs3, d3, ds3, p3, q3, rfl, rfl, rfl, h3, r3⟩ := trodAll_cons r2
  obtain ⟨v4, vs4, d4, ds4, p4, q4, rfl, rfl, rfl, h4, r4⟩ := trodAll_cons r3
  obtain ⟨rfl, rfl, rfl⟩ := trodAll_nil r4
  obtain rfl : args = #[v0, v1, v2, v3, v4] := by cases args; simp_all
  obtain ⟨rfl, rfl⟩ := trodVars_none hV
  obtain ⟨a0, rfl, rfl, rfl, w0⟩ := open_int Try.underlying3 (hval 0 3 v0 rfl rfl) h0
  obtain ⟨a1, rfl, rfl, rfl, w1⟩ := open_int Try.underlying3 (hval 1 3 v1 rfl rfl) h1
  obtain ⟨a2, rfl, rfl, rfl, w2⟩ := open_int Try.underlying3 (hval 2 3 v2 rfl rfl) h2
  obtain ⟨a3, rfl, rfl, rfl, w3⟩ := open_int Try.underlying3 (hval 3 3 v3 rfl rfl) h3
  obtain ⟨a4, rfl, rfl, rfl, w4⟩ := open_int Try.underlying3 (hval 4 3 v4 rfl rfl) h4
  clear hA0 hval0
  simp only [List.append_nil] at hW'
  refine (walk a0 a1 a2 a3 a4 w0 w1 w2 w3 w4 W).mono fun e W' ⟨he, hg⟩ => ?_
  subst he
  exact ⟨_, rfl, post_of_same (pa := []) (pv := []) hW' (fun _ _ _ => (trodAll_cons_mk (shut_bool Try.underlying4 _) trodAll_mk0)) (fun sp _ => (trodAll_cons_mk (shut_int Try.underlying3 w0) (trodAll_cons_mk (shut_int Try.underlying3 w1) (trodAll_cons_mk (shut_int Try.underlying3 w2) (trodAll_cons_mk (shut_int Try.underlying3 w3) (trodAll_cons_mk (shut_int Try.underlying3 w4) trodAll_mk0)))))) (fun _ _ => rfl) rfl
    (hg.frame _) hg.2.1 (ok_one (by kernel_rfl) rfl (okWide_bool_mk Try.underlying4 _))⟩

theorem over : Rows.numberGaussRow.holds Try.pinned (OpenSpec.ofChange Rows.numberGaussSpec) :=
  OpenClaim.holds_of_wide 6 Try.f6 rfl rfl rfl rfl rfl rfl rfl ⟨rfl, rfl, rfl, rfl, rfl⟩ rfl rfl rfl rfl rfl (by kernel_rfl) Try.func6 (by kernel_rfl)
    (of_decide_eq_true (by kernel_rfl)) (by unfold Func.isWrapper; first | (rw [if_pos (by decide +kernel)]; kernel_rfl) | (rw [if_neg (by decide +kernel)]; exact ⟨rfl, rfl⟩))
    (fun os started H enc _ => lifted os started H enc)

/-- The given statement. -/
theorem numberGauss_holds : Rows.NumberGaussSaid :=
  over
end Go.Proofs.Ytfjomcfjmdijmaa
