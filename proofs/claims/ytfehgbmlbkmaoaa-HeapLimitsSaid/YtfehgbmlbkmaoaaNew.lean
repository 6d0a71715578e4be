import Derived.Test.YtfehgbmlbkmaoaaObj
namespace Go.Proofs.Ytfehgbmlbkmaoaa
open Go.RowKit Go.Maps Go.WideMaps
attribute [local go_sem] run_store_complex

/-- An update of a map, in step form (for a region that draws its order). -/
theorem step_update_h {ops : Array Oper} {o : Oper} {a : Act} {K : Act → World → Prop} {Q : Exit → Act → World → Prop} {E : Prop} (w : World) (hgd : o.guard = none) (m x v : Operand) (t : TypeId) (hop : o.op = Op.mapUpdate t m x v)
    (e : TypeId) (ht : Try.prog.underlying t = some (.map 9 e)) (b n : Nat) (f : S → Option Value)
    (hm : a.eval m = .map (some b)) (hown : hmap w b n f) (hn : n < maxLen) (s : ByteArray) (hx : a.eval x = .string s) (hs : s.size ≤ maxLen)
    (val : Value) (hv : a.eval v = val) (hK : ∀ w', hmap w' b (n + 1) (upd f (B s) val) → w.grownBy w' (some b) → K (a.put o.dst undef) w') :
    if Region.wanted o (yielded ops a.tmps) = true then Oper.wp Try.prog o a w K Q else E := by
  have hw : Region.wanted o (yielded ops a.tmps) = true := by simp [Region.wanted, hgd]
  rw [if_pos hw]
  obtain ⟨w', hrun, r1, r2⟩ := hown.update ht hn s hs val
  unfold Oper.wp
  simp [execOp, hop, hm, hx, hv, hrun, Result.andThen]
  exact hK w' r1 r2

/-- What the map of the object holds. -/
def fx (k : Nat) : S → Option Value := if k = 0 then fun _ => none else upd (fun _ => none) [120] zv

/-- A heap that holds one object with one field. -/
def HeapObj (b : Nat) (w : World) : Prop := ∃ gg cap o m, w.heap[b]? = some (.cells #[.slice (some ⟨gg, 0, none⟩) 1 cap] 24 (0, 0)) ∧ w.cell? ⟨gg, 0, none⟩ = some (.pointer (some ⟨o, 0, none⟩)) ∧
  w.heap[o]? = some (.cells #[.string ⟨#[76, 65, 59]⟩, .string ⟨#[115]⟩, .map (some m), .slice none 0 0, .bool false] 49 (0, 0)) ∧ hmap w m 1 (fx 1)

set_option maxRecDepth 100000 in
set_option maxHeartbeats 4000000 in
theorem new8 (b F : Nat) (w : World) (hb : w.heap[b]? = some (.cells #[.slice none 0 0] 24 (0, 0))) (hF : w.heap[F]? = some (.cells #[.string ⟨#[120, 58, 73]⟩] 9 (0, 0))) :
    Calls Try.prog 8 #[.pointer (some ⟨b, 0, none⟩), .string ⟨#[76, 65, 59]⟩, .string ⟨#[115]⟩, .slice (some ⟨F, 0, none⟩) 1 1] w fun e w' => e = .returned (.int .i64 1) ∧ HeapObj b w' ∧ Below b w w' := by
  obtain ⟨q, hq, hq0, hq1, hq2⟩ := info_parts info43
  have HBB := Lib.hid hb
  have HFF := Lib.hid hF
  have hbl := (Array.getElem?_eq_some_iff.1 hb).1
  have hfl := (Array.getElem?_eq_some_iff.1 hF).1
  clear hb hF
  have hmm := @run_makeMap Try.prog
  go_enter Try.func8, Try.ntmps8
  go_wp2
  go_loopw [22] (fun i wr => ∃ k : Nat, k ≤ 1 ∧ i = .int .i64 k ∧ hmap wr w.heap.size k (fx k) ∧ Below w.heap.size w wr ∧ wr.heap[w.heap.size + 1]? = some (.cells #[.string ⟨#[76, 65, 59]⟩, .string ⟨#[115]⟩, .map (some w.heap.size), .slice none 0 0, .bool false] 49 (0, 0))) (fun i _ => 1 - (intOf i).toNat)
  case atStart =>
    refine ⟨0, Nat.zero_le _, rfl, ?_, ?_, ?_⟩
    · exact ((hmap_made w).alloc _)
    · exact ((Below.refl _ w).alloc (Nat.le_refl _) _).alloc (by rw [World.size_alloc]; omega) _
    · have h := heap_alloc_new (w.alloc (.map #[] 0)) (.cells #[.string ⟨#[76, 65, 59]⟩, .string ⟨#[115]⟩, .map (some w.heap.size), .slice none 0 0, .bool false] 49)
      rw [World.size_alloc] at h
      exact h
  case round =>
    obtain ⟨k, hk, rfl, hm, hB, ho⟩ := hrel
    rcases (show k = 0 ∨ k = 1 by omega) with rfl | rfl
    · have hf := (hB.block F hfl).trans HFF.out
      have kf := cell_of_block (j := 0) hf rfl
      have k2 := cell_of_block (j := 2) ho rfl
      have HLW := Lib.hid (show w.heap.size ≤ wr.heap.size from hB.size)
      have HOL := Lib.hid (Array.getElem?_eq_some_iff.1 ho).1
      have HML := Lib.hid hm.lt
      have HM := Lib.hid hm
      have HB := Lib.hid hB
      have HO := Lib.hid ho
      clear hm hB ho hf
      have e1 : Lib.lastIndexByte ⟨#[120, 58, 73]⟩ 58 = 1 := by decide
      have e4 : IntKind.i64.wrap 2 = 2 := by decide
      have e2 : (⟨#[120, 58, 73]⟩ : ByteArray).extract 0 1 = ⟨#[120]⟩ := by decide
      have e3 : (⟨#[120, 58, 73]⟩ : ByteArray).extract 2 3 = ⟨#[73]⟩ := by decide
      go_upto_region 9 with (go_at_call 17; refine (Try.strings_LastIndexByte _ _ (by decide) _).mono ?_; rintro e w1 ⟨rfl, rfl⟩)
      -- region 9
      have hcur0 := (Below.refl w.heap.size w1).drew
      refine wp_region_held_drew (S := (fun w' => w'.cell? ⟨w.heap.size + 1, 2, none⟩ = some (.map (some w.heap.size)) ∧ Below w.heap.size w1 w')) (by kernel_rfl) ⟨k2, hcur0⟩ (fun hHeld => ?_)
      refine wpAnyH_take (i := 0) (oi := { dst := some 30, op := Op.move (Operand.tmp 9), type := 43, pos := "heap.go:42", after := #[], guard := none }) (v := ?v1) rfl (by kernel_rfl) (by kernel_rfl) (by kernel_rfl) (fun _ _ _ h => h) (Or.inl ⟨by rfl, ?y1⟩) (by assumption) ?_
      case y1 => (intro w hSw; (try dsimp only at hSw); go_simp; try with_reducible rfl)
      simp only [Act.put, List.setIfInBounds_toArray, List.set_cons_zero, List.set_cons_succ]
      refine wpAnyH_take (i := 1) (oi := { dst := some 31, op := Op.nilCheck (Operand.tmp 30), type := 0, pos := "heap.go:42", after := #[{ on := 0, ground := Ground.data }], guard := none }) (v := ?v2) rfl (by kernel_rfl) (by kernel_rfl) (by kernel_rfl) (fun _ _ _ h => h) (Or.inl ⟨by rfl, ?y2⟩) (by assumption) ?_
      case y2 => (intro w hSw; (try dsimp only at hSw); go_simp; try with_reducible rfl)
      simp only [Act.put, List.setIfInBounds_toArray, List.set_cons_zero, List.set_cons_succ]
      refine wpAnyH_take (i := 2) (oi := { dst := some 32, op := Op.fieldAddr 49 (Operand.tmp 31) 2, type := 0, pos := "heap.go:42", after := #[{ on := 1, ground := Ground.data }], guard := none }) (v := ?v3) rfl (by kernel_rfl) (by kernel_rfl) (by kernel_rfl) (fun _ _ _ h => h) (Or.inl ⟨by rfl, ?y3⟩) (by assumption) ?_
      case y3 => (intro w hSw; (try dsimp only at hSw); go_simp; try with_reducible rfl)
      simp only [Act.put, List.setIfInBounds_toArray, List.set_cons_zero, List.set_cons_succ]
      refine wpAnyH_take (i := 3) (oi := { dst := some 33, op := Op.load 47 (Operand.tmp 32), type := 47, pos := "heap.go:42", after := #[{ on := 2, ground := Ground.data }], guard := none }) (v := ?v4) rfl (by kernel_rfl) (by kernel_rfl) (by kernel_rfl) (fun _ _ _ h => h) (Or.inl ⟨by rfl, ?y4⟩) (by assumption) ?_
      case y4 => (intro w hSw; (try dsimp only at hSw); go_simp; try with_reducible rfl)
      simp only [Act.put, List.setIfInBounds_toArray, List.set_cons_zero, List.set_cons_succ]
      refine wpAnyH_take (i := 4) (oi := { dst := some 34, op := Op.move (Operand.tmp 11), type := 9, pos := "heap.go:42", after := #[], guard := none }) (v := ?v5) rfl (by kernel_rfl) (by kernel_rfl) (by kernel_rfl) (fun _ _ _ h => h) (Or.inl ⟨by rfl, ?y5⟩) (by assumption) ?_
      case y5 => (intro w hSw; (try dsimp only at hSw); go_simp; try with_reducible rfl)
      simp only [Act.put, List.setIfInBounds_toArray, List.set_cons_zero, List.set_cons_succ]
      refine wpAnyH_take (i := 5) (oi := { dst := some 35, op := Op.move (Operand.tmp 12), type := 3, pos := "heap.go:42", after := #[], guard := none }) (v := ?v6) rfl (by kernel_rfl) (by kernel_rfl) (by kernel_rfl) (fun _ _ _ h => h) (Or.inl ⟨by rfl, ?y6⟩) (by assumption) ?_
      case y6 => (intro w hSw; (try dsimp only at hSw); go_simp; try with_reducible rfl)
      simp only [Act.put, List.setIfInBounds_toArray, List.set_cons_zero, List.set_cons_succ]
      refine wpAnyH_take (i := 6) (oi := { dst := some 36, op := Op.slice 9 (Operand.tmp 34) none (some (Operand.tmp 35)) none, type := 9, pos := "heap.go:42", after := #[{ on := 4, ground := Ground.data }, { on := 5, ground := Ground.data }], guard := none }) (v := ?v7) rfl (by kernel_rfl) (by kernel_rfl) (by kernel_rfl) (fun _ _ _ h => h) (Or.inl ⟨by rfl, ?y7⟩) (by assumption) ?_
      case y7 => (intro w hSw; (try dsimp only at hSw); go_simp; try with_reducible rfl)
      simp only [Act.put, List.setIfInBounds_toArray, List.set_cons_zero, List.set_cons_succ]
      refine wpAnyH_take (i := 7) (oi := { dst := some 37, op := Op.move (Operand.tmp 11), type := 9, pos := "heap.go:42", after := #[], guard := none }) (v := ?v8) rfl (by kernel_rfl) (by kernel_rfl) (by kernel_rfl) (fun _ _ _ h => h) (Or.inl ⟨by rfl, ?y8⟩) (by assumption) ?_
      case y8 => (intro w hSw; (try dsimp only at hSw); go_simp; try with_reducible rfl)
      simp only [Act.put, List.setIfInBounds_toArray, List.set_cons_zero, List.set_cons_succ]
      refine wpAnyH_take (i := 8) (oi := { dst := some 38, op := Op.move (Operand.tmp 12), type := 3, pos := "heap.go:42", after := #[], guard := none }) (v := ?v9) rfl (by kernel_rfl) (by kernel_rfl) (by kernel_rfl) (fun _ _ _ h => h) (Or.inl ⟨by rfl, ?y9⟩) (by assumption) ?_
      case y9 => (intro w hSw; (try dsimp only at hSw); go_simp; try with_reducible rfl)
      simp only [Act.put, List.setIfInBounds_toArray, List.set_cons_zero, List.set_cons_succ]
      refine wpAnyH_take (i := 9) (oi := { dst := some 39, op := Op.binOp BinOp.add 3 (Operand.tmp 38) (Operand.const (Value.int IntKind.i64 1)) 3, type := 3, pos := "heap.go:42", after := #[{ on := 8, ground := Ground.data }], guard := none }) (v := ?v10) rfl (by kernel_rfl) (by kernel_rfl) (by kernel_rfl) (fun _ _ _ h => h) (Or.inl ⟨by rfl, ?y10⟩) (by assumption) ?_
      case y10 => (intro w hSw; (try dsimp only at hSw); go_simp; try with_reducible rfl)
      simp only [Act.put, List.setIfInBounds_toArray, List.set_cons_zero, List.set_cons_succ]
      refine wpAnyH_take (i := 10) (oi := { dst := some 40, op := Op.slice 9 (Operand.tmp 37) (some (Operand.tmp 39)) none none, type := 9, pos := "heap.go:42", after := #[{ on := 7, ground := Ground.data }, { on := 9, ground := Ground.data }], guard := none }) (v := ?v11) rfl (by kernel_rfl) (by kernel_rfl) (by kernel_rfl) (fun _ _ _ h => h) (Or.inl ⟨by rfl, ?y11⟩) (by assumption) ?_
      case y11 => (intro w hSw; (try dsimp only at hSw); go_simp; try with_reducible rfl)
      simp only [Act.put, List.setIfInBounds_toArray, List.set_cons_zero, List.set_cons_succ]
      refine wpAnyH_ready (rs := [11]) (by kernel_rfl) (by simp) ?_
      refine AllReadyH.cons (o := { dst := some 41, op := Op.call { callee := Callee.value (Operand.func 14), args := #[Operand.tmp 40], argTypes := #[9] }, type := 31, pos := "heap.go:42", after := #[{ on := 10, ground := Ground.data }], guard := none }) rfl (fun K hK => ?_) AllReadyH.nil
      go_simp
      go_at_call 14; refine (zero14 _).mono ?_; rintro e w2 ⟨rfl, hB2⟩; have hm2 := HM.out.drew.below hB2 HML.out; have hcur2 := hcur0.trans (hB2.mono HLW.out); have ho2 := (hB2.block _ HOL.out).trans HO.out; have q2 := cell_of_block (j := 2) ho2 rfl; have HO2 := Lib.hid ho2; have z2 := hB2.size; clear hB2 ho2
      refine hK.out _ _ ⟨q2, hcur2⟩ (fun hHeld => ?_)
      clear hK K
      try simp only [Act.put, List.setIfInBounds_toArray, List.set_cons_zero, List.set_cons_succ]
      refine wpAnyH_ready (rs := [12]) (by kernel_rfl) (by simp) ?_
      refine AllReadyH.cons (o := { dst := none, op := Op.mapUpdate 47 (Operand.tmp 33) (Operand.tmp 36) (Operand.tmp 41), type := 0, pos := "heap.go:42", after := #[{ on := 3, ground := Ground.data }, { on := 6, ground := Ground.data }, { on := 11, ground := Ground.data }, { on := 11, ground := Ground.chain }, { on := 0, ground := Ground.phase }, { on := 1, ground := Ground.phase }, { on := 2, ground := Ground.phase }, { on := 3, ground := Ground.phase }, { on := 4, ground := Ground.phase }, { on := 5, ground := Ground.phase }, { on := 6, ground := Ground.phase }, { on := 7, ground := Ground.phase }, { on := 8, ground := Ground.phase }, { on := 9, ground := Ground.phase }, { on := 10, ground := Ground.phase }, { on := 11, ground := Ground.phase }], guard := none }) rfl (fun K hK => ?_) AllReadyH.nil
      (refine step_update_h w2 rfl _ _ _ 47 rfl 31 Try.underlying47 w.heap.size 0 (fx 0) rfl hm2 (by unfold maxLen; omega) ⟨#[120]⟩ rfl (by decide) _ rfl ?_; intro w5 hm5 hg5; have ho5 := (hg5.block (w.heap.size + 1) (Array.getElem?_eq_some_iff.1 HO2.out).1 (fun e => by have e2 := Option.some.inj e; omega)).trans HO2.out; have q5 := cell_of_block (j := 2) ho5 rfl; have hcur5 := hcur2.grown hg5 (by have := hcur2.size; have := HLW.out; omega) (fun q hq => by cases hq; omega); have HM5 := Lib.hid hm5; have HO5 := Lib.hid ho5; clear hm5 hg5 ho5)
      refine hK.out _ _ ⟨q5, hcur5⟩ (fun hHeld => ?_)
      clear hK K
      try simp only [Act.put]
      refine wpAnyH_done (by kernel_rfl) ?_ _
      go_wp2
      go_roundw
      case measure => simp [intOf]
      case rel => exact ⟨1, Nat.le_refl _, by go_num, HM5.out.congr (fun _ => rfl), HB.out.trans hcur5, HO5.out⟩
    · have hb := (hB.block b hbl).trans HBB.out
      have k0 := cell_of_block (j := 0) hb rfl
      have f0 := frozen_of_block (j := 0) hb
      have HB := Lib.hid hB
      have HM := Lib.hid hm
      have HO := Lib.hid ho
      have HBK := Lib.hid hb
      have hlw : w.heap.size ≤ wr.heap.size := hB.size
      have hol := (Array.getElem?_eq_some_iff.1 ho).1
      have hml := hm.lt
      have hbr := (Array.getElem?_eq_some_iff.1 hb).1
      clear hB hm ho hb hmm
      go_wp2_with (at_builtin; refine wpList_append_lies _ (by rfl) _ _ _ (by rfl) wr.heap.size 43 q _ 1 8 Try.underlying22 hq hq0 hq1 hq2 rfl (by omega) (.slice none 0 0) 0 [] (by rfl) (World.ownsRow_nil _ _ _ _) ⟨wr.heap.size, 0, none⟩ 1 1 [.pointer (some ⟨w.heap.size + 1, 0, none⟩)] (by rfl) (by rfl) (World.news_of_block (cs := #[.pointer (some ⟨w.heap.size + 1, 0, none⟩)]) (t := 43) (fr := (0, 0)) (heap_alloc_new wr _)) (by simp [Value.oneCell']) (by omega) (by unfold maxLen; omega) (by omega) (by simp) (wr.heap.size + 1) (by simp) ?_; intro gg cap' w7 hown7 hgrow7 hat7 hlt7; have hcur7 := ((Below.refl wr.heap.size wr).alloc (Nat.le_refl _) _).grown hgrow7 (by simp) (fun q hq => by cases hq); have hn7 := (hcur7.block b hbr).trans HBK.out; have hw7 := set_block (v := .slice (some ⟨gg, 0, none⟩) 1 cap') hn7; clear k0 f0; have k7 := cell_of_block (j := 0) hn7 rfl; have f7 := frozen_of_block (j := 0) hn7; have kW := cell_of_block (j := 0) hw7 rfl; have HO7 := Lib.hid hown7; have hgb := hown7.lt gg rfl; have HC7 := Lib.hid hcur7; have HW7 := Lib.hid hw7; clear hown7 hgrow7 hat7 hlt7 hn7 hcur7 hw7)
      go_ret
      exact ⟨rfl, ⟨gg, cap', w.heap.size + 1, w.heap.size, HW7.out, (World.cell?_of_block (Below.heap_setCell _ _ _ _ (by show gg ≠ b; omega))).trans (own_head HO7.out), (Below.heap_setCell _ _ _ _ (by show w.heap.size + 1 ≠ b; omega)).trans ((HC7.out.block _ hol).trans HO.out), HM.out.block ((Below.heap_setCell _ _ _ _ (by show w.heap.size ≠ b; omega)).trans (HC7.out.block _ hml))⟩, ((HB.out.mono (Nat.le_of_lt hbl)).trans (HC7.out.mono (by omega))).setCell (Nat.le_refl _) _⟩
end Go.Proofs.Ytfehgbmlbkmaoaa
