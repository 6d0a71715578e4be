/- NumberReals: the real part of a complex number whose real part is a whole number of 32 binary digits and some eighths is that number cut toward nothing; from 2^31 on it is 0; whatever the imaginary part. No condition. -/
import Derived.Test.YtfjomcfjmdijmaaRows
import Derived.WalkKit
import Derived.ProofKit
import Derived.OpenShut
import Derived.Test.YtfjomcfjmdijmaaReal
namespace Go.Proofs.Ytfjomcfjmdijmaa
open Go.ChangeShapes Go.WideShapes Go.ChangeAt Go.RowKit
set_option linter.unusedVariables false      -- a walk need not use every 'w<i>' (that an integer argument fits its kind)

theorem own : ownKnob Try.prog.godebug = none := by kernel_rfl

/-! ### STEP 1: THE WALK: the Go text returns true. 'Grown w w'': the world has at most new blocks (Derived/RowKit3.lean). Part the cases AHEAD of 'go_enter' where a test parts the walk; take each callee by a contract of your own. -/
/-- One way through: 'x' the whole part, 'm' the eighths. -/
theorem ways (n p t m : Int) (im : Nat) (ht : p.tmod 8 = t) (hm : (t < 0 ∧ -t = m) ∨ (¬ t < 0 ∧ t = m)) (w : World) :
    Calls Try.prog 5 #[.int .i64 n, .int .i64 p, .float .f64 im] w fun e w' => e = .returned (.bool true) ∧ Grown w w' := by
  have hx := w_range n
  have ht8 : -8 < t ∧ t < 8 := by
    have e : (p.tmod 8).natAbs = p.natAbs % 8 := Int.natAbs_tmod p 8
    rw [ht] at e
    omega
  have hm0 : 0 ≤ m := by omega
  have hm8 : m < 8 := by omega
  obtain ⟨f, hf, rf⟩ := eighths m hm0 hm8
  have rx : Rep (FloatKind.f64.nearest (wrap32 n)) (wrap32 n * 8) 3 := rep_eighths (rep32 n) (by omega)
  obtain ⟨c1, e1, r1⟩ := rep_add rx rf (by omega) (by omega)
  obtain ⟨c2, e2, r2⟩ := rep_add high3 rf (by omega) (by omega)
  have o1 : ∀ t w, (binOp .quo t (.float .f64 (floatOfInt .f64 m)) (.float .f64 4620693217682128896)).run Try.prog w = .ok (.float .f64 f) w := fun t w => run_float_arith w .quo t .f64 _ _ _ hf
  have o2 : ∀ t w, (binOp .add t (.float .f64 (floatOfInt .f64 (wrap32 n))) (.float .f64 f)).run Try.prog w = .ok (.float .f64 c1) w := fun t w => run_float_arith w .add t .f64 _ _ _ e1
  have o3 : ∀ t w, (binOp .add t (.float .f64 4746794007248502784) (.float .f64 f)).run Try.prog w = .ok (.float .f64 c2) w := fun t w => run_float_arith w .add t .f64 _ _ _ e2
  have hc := cut_eighths (wrap32 n) m hm0 hm8
  have H1 : ∀ w, Calls Try.prog 15 #[.complex .f64 c1 im] w fun e w' => e = .returned (.int .i64 (if wrap32 n < 0 ∧ 0 < m then wrap32 n + 1 else wrap32 n)) ∧ w = w' := by
    intro w
    rw [← hc]
    exact real15 r1 low3 high3 (by omega) (by omega) (by rw [hc]; split <;> omega) w
  have H2 : ∀ w, Calls Try.prog 15 #[.complex .f64 c2 im] w fun e w' => e = .returned (.int .i64 0) ∧ w = w' := fun w =>
    real15_over r2 low3 high3 (by omega) (by omega) w
  have z3 : Rep 0 (0 * 8) 3 := rep_eighths rep_zero (by decide)
  have og : 0 < m → FloatKind.f64.format.order f 0 = some .gt := fun h => order_gt rf z3 (by omega)
  have oe : m = 0 → FloatKind.f64.format.order f 0 = some .eq := fun h => by subst h; exact rep_eq rf (show Rep 0 0 3 from z3)
  clear hf rf rx e1 r1 e2 r2 hc z3
  have K1 := Lib.hid H1
  have K2 := Lib.hid H2
  have G := Lib.hid og
  have E := Lib.hid oe
  have HM := Lib.hid hm
  clear H1 H2 og oe hm
  by_cases h0 : wrap32 n < 0
  · by_cases h1 : 0 < m
    · have h2 := G.out h1
      have K3 : ∀ w, Calls Try.prog 15 #[.complex .f64 c1 im] w fun e w' => e = .returned (.int .i64 (wrap32 n + 1)) ∧ w = w' := by
        have := K1.out; rwa [if_pos ⟨h0, h1⟩] at this
      have K4 := Lib.hid K3
      clear K3 K1
      rcases HM.out with ⟨q1, q2⟩ | ⟨q1, rfl⟩
      all_goals
        clear HM G E
        go_enter Try.func5, Try.ntmps5
        go_wp2_with (first
          | (go_at_call 7; refine (wrap7 _ _).mono ?_; rintro e w' ⟨rfl, rfl⟩)
          | (go_at_call 14; refine (awake14 _).mono ?_; rintro e w' ⟨rfl, rfl⟩))
        refine (K4.out _).mono ?_
        rintro e w' ⟨rfl, rfl⟩
        go_wp2_with fail
        refine (K2.out _).mono ?_
        rintro e w' ⟨rfl, rfl⟩
        go_wp2_with (go_at_call 14; refine (awake14 _).mono ?_; rintro e w' ⟨rfl, rfl⟩)
        go_ret
        exact ⟨rfl, Grown.refl _⟩
    · have h2 := E.out (by omega)
      have K3 : ∀ w, Calls Try.prog 15 #[.complex .f64 c1 im] w fun e w' => e = .returned (.int .i64 (wrap32 n)) ∧ w = w' := by
        have := K1.out; rwa [if_neg (fun h => h1 h.2)] at this
      have K4 := Lib.hid K3
      clear K3 K1
      rcases HM.out with ⟨q1, q2⟩ | ⟨q1, rfl⟩
      all_goals
        clear HM G E
        go_enter Try.func5, Try.ntmps5
        go_wp2_with (first
          | (go_at_call 7; refine (wrap7 _ _).mono ?_; rintro e w' ⟨rfl, rfl⟩)
          | (go_at_call 14; refine (awake14 _).mono ?_; rintro e w' ⟨rfl, rfl⟩))
        refine (K4.out _).mono ?_
        rintro e w' ⟨rfl, rfl⟩
        go_wp2_with fail
        refine (K2.out _).mono ?_
        rintro e w' ⟨rfl, rfl⟩
        go_wp2_with (go_at_call 14; refine (awake14 _).mono ?_; rintro e w' ⟨rfl, rfl⟩)
        go_ret
        exact ⟨rfl, Grown.refl _⟩
  · have K3 : ∀ w, Calls Try.prog 15 #[.complex .f64 c1 im] w fun e w' => e = .returned (.int .i64 (wrap32 n)) ∧ w = w' := by
      have := K1.out; rwa [if_neg (fun h => h0 h.1)] at this
    have K4 := Lib.hid K3
    clear K3 K1
    rcases HM.out with ⟨q1, q2⟩ | ⟨q1, rfl⟩
    all_goals
      clear HM G E
      go_enter Try.func5, Try.ntmps5
      go_wp2_with (first
        | (go_at_call 7; refine (wrap7 _ _).mono ?_; rintro e w' ⟨rfl, rfl⟩)
        | (go_at_call 14; refine (awake14 _).mono ?_; rintro e w' ⟨rfl, rfl⟩))
      refine (K4.out _).mono ?_
      rintro e w' ⟨rfl, rfl⟩
      go_wp2_with fail
      refine (K2.out _).mono ?_
      rintro e w' ⟨rfl, rfl⟩
      go_wp2_with (go_at_call 14; refine (awake14 _).mono ?_; rintro e w' ⟨rfl, rfl⟩)
      go_ret
      exact ⟨rfl, Grown.refl _⟩

theorem walk (a0 : Int) (a1 : Int) (a2 : Nat) (w : World) :
    Calls Try.prog 5 #[.int .i64 a0, .int .i64 a1, .float .f64 a2] w fun e w' => e = .returned (.bool true) ∧ Grown w w' := by
  by_cases h : a1.tmod 8 < 0
  · exact ways a0 a1 _ _ a2 rfl (.inl ⟨h, rfl⟩) w
  · exact ways a0 a1 _ _ a2 rfl (.inr ⟨h, rfl⟩) w

/-! ### THE ROW's STEP: WRITTEN OUT: LEAVE IT -/
set_option maxRecDepth 100000 in
theorem lifted (os : Os) (started : os.Started) (H : Type) (enc : TypeId × Value → H) :
    ReturnsInHanded {} Try.checked os 5 .any (Rows.numberRealsSpec.pre6 enc Try.prog Try.f5 Rows.numberRealsRow.domain false) (Rows.numberRealsSpec.post enc Try.prog Try.f5 false true false false) := by
  refine returnsInHanded_of_change (C := Try.checked) own started (by kernel_rfl) Try.func5
    (ChangeSpec.witness6 (enc := enc) (C := Try.checked) false ⟨#[], #[.int .i64 0, .int .i64 0, .float .f64 0], []⟩ 8 (by kernel_rfl) (by kernel_rfl) (by kernel_rfl) (by kernel_rfl)) ?_
  intro W base args ds gs before hval0 hW hcnd _
  have hval : ∀ (j : Nat) t v, Try.f5.params[j]? = some t → args[j]? = some v → Value.okWide Try.prog W .any base t v := hval0
  have hW' := hW
  obtain ⟨p, q, hA0, hV, rfl, hfz, hnd⟩ := hW
  have hA : DataW.TrodAll enc Try.prog W 0 (fun _ => true) true Try.f5.params.toList args.toList ds p := hA0
  rw [Try.params5] at hA hval
  obtain ⟨v0, vs0, d0, ds0, p0, q0, hargs, rfl, rfl, h0, r0⟩ := trodAll_cons hA
  obtain ⟨v1, vs1, d1, ds1, p1, q1, rfl, rfl, rfl, h1, r1⟩ := trodAll_cons r0
  obtain ⟨v2, vs2, d2, ds2, p2, q2, rfl, rfl, rfl, h2, r2⟩ := trodAll_cons r1
  obtain ⟨rfl, rfl, rfl⟩ := trodAll_nil r2
  obtain rfl : args = #[v0, v1, v2] := by cases args; simp_all
  obtain ⟨rfl, rfl⟩ := trodVars_none hV
  obtain ⟨a0, rfl, rfl, rfl, w0⟩ := open_int Try.underlying3 (hval 0 3 v0 rfl rfl) h0
  obtain ⟨a1, rfl, rfl, rfl, w1⟩ := open_int Try.underlying3 (hval 1 3 v1 rfl rfl) h1
  obtain ⟨a2, rfl, rfl, rfl, w2⟩ := open_float Try.underlying29 (hval 2 29 v2 rfl rfl) h2
  clear hA0 hval0
  simp only [List.append_nil] at hW'
  refine (walk a0 a1 a2 W).mono fun e W' ⟨he, hg⟩ => ?_
  subst he
  exact ⟨_, rfl, post_of_same (pa := []) (pv := []) hW' (fun _ _ _ => (trodAll_cons_mk (shut_bool Try.underlying4 _) trodAll_mk0)) (fun sp _ => (trodAll_cons_mk (shut_int Try.underlying3 w0) (trodAll_cons_mk (shut_int Try.underlying3 w1) (trodAll_cons_mk (shut_float Try.underlying29 w2) trodAll_mk0)))) (fun _ _ => rfl) rfl
    (hg.frame _) hg.2.1 (ok_one (by kernel_rfl) rfl (okWide_bool_mk Try.underlying4 _))⟩

theorem over : Rows.numberRealsRow.holds Try.pinned (OpenSpec.ofChange Rows.numberRealsSpec) :=
  OpenClaim.holds_of_wide 5 Try.f5 rfl rfl rfl rfl rfl rfl rfl ⟨rfl, rfl, rfl, rfl, rfl⟩ rfl rfl rfl rfl rfl (by kernel_rfl) Try.func5 (by kernel_rfl)
    (of_decide_eq_true (by kernel_rfl)) (by unfold Func.isWrapper; first | (rw [if_pos (by decide +kernel)]; kernel_rfl) | (rw [if_neg (by decide +kernel)]; exact ⟨rfl, rfl⟩))
    (fun os started H enc _ => lifted os started H enc)

/-- The given statement. -/
theorem numberReals_holds : Rows.NumberRealsSaid :=
  over
end Go.Proofs.Ytfjomcfjmdijmaa
