import Derived.Test.YtfehgbmlbkmaoaaBase
namespace Go.Proofs.Ytfehgbmlbkmaoaa
open Go.RowKit Go.Maps Go.WideMaps

/-- A scope in which the run jumps back to one label: what goes on from the label is shown once. -/
theorem wp_scope_pass {P : Program} {a : Act} {w : World} {Q : Exit → Act → World → Prop} {c rest : Code} (l : Nat) (J : Act → World → Prop) (μ : Act → World → Nat) (hf : findLabel c l = some (Code.skip.seq rest))
    (pass : ∀ a w, J a w → ∀ J' : Act → World → Prop, (∀ a' w', J a' w' → μ a' w' < μ a w → J' a' w') → rest.wp P (Exit.jump l J' Q) a w)
    (first : ∀ J' : Act → World → Prop, (∀ a' w', J a' w' → J' a' w') → (∀ a w, J' a w → rest.wp P (Exit.jump l J' Q) a w) → c.wp P (Exit.jump l J' Q) a w) : (Code.scope c).wp P Q a w :=
  wp_scope_jumps l J μ hf (first J (fun _ _ h => h) fun a w hJ => pass a w hJ J fun _ _ h _ => h) fun a w hJ => wp_seq (wp_skip (pass a w hJ _ fun _ _ h h' => ⟨h, h'⟩))

set_option maxRecDepth 100000 in
set_option maxHeartbeats 4000000 in
theorem next23 (w : World) : Calls Try.prog 23 #[.string ⟨#[91, 73]⟩] w fun e w' => e = .returned (.tuple #[.string ⟨#[91, 73]⟩, .string ⟨#[]⟩]) ∧ w' = w := by
  go_enter Try.func23, Try.ntmps23
  go_wp2
  refine wp_scope_pass 0 (fun a' w' => (∃ (u1 u5 u6 u7 u8 u9 u10 u11 u12 u13 u14 u15 u16 u17 u18 u19 u20 u21 u22 u23 u24 u25 u26 u27 u28 u29 u30 u31 u32 u33 u34 u35 u36 u37 u38 u39 u40 u41 u42 u43 u44 u45 u46 u47 u48 u49 u50 u51 u52 u53 u54 u55 u56 u57 u58 u59 u60 u61 u62 : Value), a' = { tmps := #[.string ⟨#[91, 73]⟩, u1, .string ⟨#[]⟩, .string ⟨#[91, 73]⟩, .int .i64 0, u5, u6, u7, u8, u9, u10, u11, u12, u13, u14, u15, u16, u17, u18, u19, u20, u21, u22, u23, u24, u25, u26, u27, u28, u29, u30, u31, u32, u33, u34, u35, u36, u37, u38, u39, u40, u41, u42, u43, u44, u45, u46, u47, u48, u49, u50, u51, u52, u53, u54, u55, u56, u57, u58, u59, u60, u61, u62], defers := [] } ∧ w' = w) ∨ ∃ (u1 u5 u6 u7 u8 u9 u10 u11 u12 u13 u14 u15 u16 u17 u18 u19 u20 u21 u22 u23 u24 u25 u26 u27 u28 u29 u30 u31 u32 u33 u34 u35 u36 u37 u38 u39 u40 u41 u42 u43 u44 u45 u46 u47 u48 u49 u50 u51 u52 u53 u54 u55 u56 u57 u58 u59 u60 u61 u62 : Value), a' = { tmps := #[.string ⟨#[91, 73]⟩, u1, .string ⟨#[]⟩, .string ⟨#[73]⟩, .int .i64 1, u5, u6, u7, u8, u9, u10, u11, u12, u13, u14, u15, u16, u17, u18, u19, u20, u21, u22, u23, u24, u25, u26, u27, u28, u29, u30, u31, u32, u33, u34, u35, u36, u37, u38, u39, u40, u41, u42, u43, u44, u45, u46, u47, u48, u49, u50, u51, u52, u53, u54, u55, u56, u57, u58, u59, u60, u61, u62], defers := [] } ∧ w' = w) (fun a' _ => 2 - (intOf (a'.tmps.getD 4 undef)).toNat) rfl ?_ ?_
  · rintro a' wr (⟨u1, u5, u6, u7, u8, u9, u10, u11, u12, u13, u14, u15, u16, u17, u18, u19, u20, u21, u22, u23, u24, u25, u26, u27, u28, u29, u30, u31, u32, u33, u34, u35, u36, u37, u38, u39, u40, u41, u42, u43, u44, u45, u46, u47, u48, u49, u50, u51, u52, u53, u54, u55, u56, u57, u58, u59, u60, u61, u62, rfl, rfl⟩ | ⟨u1, u5, u6, u7, u8, u9, u10, u11, u12, u13, u14, u15, u16, u17, u18, u19, u20, u21, u22, u23, u24, u25, u26, u27, u28, u29, u30, u31, u32, u33, u34, u35, u36, u37, u38, u39, u40, u41, u42, u43, u44, u45, u46, u47, u48, u49, u50, u51, u52, u53, u54, u55, u56, u57, u58, u59, u60, u61, u62, rfl, rfl⟩) J' hJ'
    · have HJ' := Lib.hid hJ'
      clear hJ'
      go_wp2_with fail
      refine wp_goto ?_
      have e1 : (⟨#[91, 73]⟩ : ByteArray).extract 1 2 = ⟨#[73]⟩ := by decide
      rw [e1]
      exact ⟨rfl, HJ'.out _ _ (.inr ⟨_, _, _, _, _, _, _, _, _, _, _, _, _, _, _, _, _, _, _, _, _, _, _, _, _, _, _, _, _, _, _, _, _, _, _, _, _, _, _, _, _, _, _, _, _, _, _, _, _, _, _, _, _, _, _, _, _, _, _, rfl, rfl⟩) (by simp [intOf])⟩
    · clear hJ'
      go_wp2_with fail
      simp only [Exit.jump]
      go_ret2
      exact ⟨rfl, rfl⟩
  · intro J' hJ' hpass
    have HJ' := Lib.hid hJ'
    have HP := Lib.hid hpass
    clear hJ' hpass
    go_wp2_with fail
    go_step3
    rename_i KK hKK
    refine hKK _ _ ?_
    exact HP.out _ _ (HJ'.out _ _ (.inl ⟨_, _, _, _, _, _, _, _, _, _, _, _, _, _, _, _, _, _, _, _, _, _, _, _, _, _, _, _, _, _, _, _, _, _, _, _, _, _, _, _, _, _, _, _, _, _, _, _, _, _, _, _, _, _, _, _, _, _, _, rfl, rfl⟩))
end Go.Proofs.Ytfehgbmlbkmaoaa
