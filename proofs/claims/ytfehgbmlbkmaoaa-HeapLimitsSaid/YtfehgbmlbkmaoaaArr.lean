import Derived.Test.YtfehgbmlbkmaoaaRep
import Derived.Deep.RegionWith
namespace Go.Proofs.Ytfehgbmlbkmaoaa
open Go.RowKit Go.Maps Go.WideMaps
attribute [local go_sem] run_store_complex

theorem info43 : (Try.prog.info? 43).map (fun i => (i.zero, i.size, i.bytes)) = some (some (.pointer none), 1, 8) := by kernel_rfl

/-- A heap that holds one array of so many elements. -/
def HeapArr (b n : Nat) (w : World) : Prop := ∃ gg cap o ge cur, w.heap[b]? = some (.cells #[.slice (some ⟨gg, 0, none⟩) 1 cap] 24 (0, 0)) ∧ w.cell? ⟨gg, 0, none⟩ = some (.pointer (some ⟨o, 0, none⟩)) ∧
  w.heap[o]? = some (.cells #[.string ⟨#[91, 73]⟩, .string ⟨#[115]⟩, .map none, .slice (some ⟨ge, 0, none⟩) n n, .bool true] 49 (0, 0)) ∧ w.heap[ge]? = some (.cells cur 31 (0, 0)) ∧ Zeros cur ∧ cur.size = 3 * n

theorem set_block {w : World} {b : Nat} {v0 v : Value} {t : TypeId} (h : w.heap[b]? = some (.cells #[v0] t (0, 0))) : (w.setCell ⟨b, 0, none⟩ v).heap[b]? = some (.cells #[v] t (0, 0)) := by
  simp only [World.setCell, Array.getElem?_modify]
  rw [if_pos trivial, h]
  rfl

theorem own_head {w : World} {base g c : Nat} {v : Value} (h : w.ownsRow base 43 1 (.slice (some ⟨g, 0, none⟩) (0 + 1) c) (0 + 1) ([] ++ [v])) : w.cell? ⟨g, 0, none⟩ = some v := by
  rcases h.2 with ⟨he, _⟩ | ⟨g', cap, cur, he, _, hh, _, _, hcs, ht⟩
  · cases he
  · injection he with ha _ hc
    injection ha with ha
    injection ha with ha _ _
    subst ha
    refine cell_of_block (j := 0) hh ?_
    have h1 : (cur.toList.take ((0 + 1) * 1))[0]? = some v := by rw [ht]; rfl
    rw [List.getElem?_take_of_lt (by omega)] at h1
    simpa using h1

theorem news_one {w : World} {O : Obj} {v : Value} {e : TypeId} {j : Nat} {u : Value} (h : [v][j]? = some u) : ((w.alloc O).alloc (.cells #[v] e)).cell? ((⟨w.heap.size + 1, 0, none⟩ : Addr).add j) = some u := by
  cases j with
  | zero =>
    simp at h
    subst h
    have hn := heap_alloc_new (w.alloc O) (.cells #[v] e)
    rw [World.size_alloc] at hn
    exact cell_of_block (j := 0) hn rfl
  | succ j => simp at h

set_option maxRecDepth 100000 in
theorem arrayNil4 (n : Int) (w : World) : Calls Try.prog 4 #[.pointer none, .string ⟨#[91, 73]⟩, .string ⟨#[115]⟩, .int .i64 n] w fun e w' => e = .returned (.tuple #[.int .i64 0, .int .i64 1]) ∧ w' = w := by
  go_enter Try.func4, Try.ntmps4
  go_wp2_with (go_at_call 12; refine (elem12 _).mono ?_; rintro e w1 ⟨rfl, rfl⟩)
  go_ret2
  exact ⟨rfl, rfl⟩

set_option maxRecDepth 100000 in
theorem arrayBad4 (b : Nat) (n : Int) (hn : n < 0 ∨ 100 < n) (w : World) : Calls Try.prog 4 #[.pointer (some ⟨b, 0, none⟩), .string ⟨#[91, 73]⟩, .string ⟨#[115]⟩, .int .i64 n] w fun e w' => e = .returned (.tuple #[.int .i64 0, .int .i64 1]) ∧ w' = w := by
  by_cases h0 : n < 0
  · go_enter Try.func4, Try.ntmps4
    go_wp2_with (go_at_call 12; refine (elem12 _).mono ?_; rintro e w1 ⟨rfl, rfl⟩)
    go_ret2
    exact ⟨rfl, rfl⟩
  · have h1 : 100 < n := by omega
    go_enter Try.func4, Try.ntmps4
    go_wp2_with (go_at_call 12; refine (elem12 _).mono ?_; rintro e w1 ⟨rfl, rfl⟩)
    go_ret2
    exact ⟨rfl, rfl⟩

set_option maxRecDepth 100000 in
set_option maxHeartbeats 4000000 in
theorem arrayOk4 (b n : Nat) (hn : n ≤ 100) (w : World) (hb : w.heap[b]? = some (.cells #[.slice none 0 0] 24 (0, 0))) :
    Calls Try.prog 4 #[.pointer (some ⟨b, 0, none⟩), .string ⟨#[91, 73]⟩, .string ⟨#[115]⟩, .int .i64 n] w fun e w' => e = .returned (.tuple #[.int .i64 1, .int .i64 0]) ∧ HeapArr b n w' ∧ Below b w w' := by
  obtain ⟨q, hq, hq0, hq1, hq2⟩ := info_parts info43
  have HBB := Lib.hid hb
  have k0 := cell_of_block (j := 0) hb rfl
  have f0 := frozen_of_block (j := 0) hb
  have i1 : ¬ ((n : Int) < 0) := by omega
  have i2 : ¬ ((100 : Int) < (n : Int)) := by omega
  have hbl := (Array.getElem?_eq_some_iff.1 hb).1
  clear hb
  go_enter Try.func4, Try.ntmps4
  go_upto_region 4 with (go_at_call 12; refine (elem12 _).mono ?_; rintro e w1 ⟨rfl, rfl⟩)
  have hn0 : w1.drew.heap[b]? = some (.cells #[.slice none 0 0] 24 (0, 0)) := HBB.out
  have hcur0 : Below b w1 w1.drew := (Below.refl b w1).drew
  refine wp_region_held_drew (S := (fun w' => Below b w1 w')) (by kernel_rfl) hcur0 (fun hHeld => ?_)
  refine wpAnyH_take (i := 0) (oi := { dst := some 31, op := Op.move (Operand.tmp 0), type := 34, pos := "heap.go:57", after := #[], guard := none }) (v := ?v1) rfl (by kernel_rfl) (by kernel_rfl) (by kernel_rfl) (fun _ _ _ h => h) (Or.inl ⟨by rfl, ?y1⟩) (by assumption) ?_
  case y1 => (intro w hSw; (try dsimp only at hSw); go_simp; try with_reducible rfl)
  simp only [Act.put, List.setIfInBounds_toArray, List.set_cons_zero, List.set_cons_succ]
  refine wpAnyH_take (i := 1) (oi := { dst := some 32, op := Op.move (Operand.tmp 0), type := 34, pos := "heap.go:57", after := #[], guard := none }) (v := ?v2) rfl (by kernel_rfl) (by kernel_rfl) (by kernel_rfl) (fun _ _ _ h => h) (Or.inl ⟨by rfl, ?y2⟩) (by assumption) ?_
  case y2 => (intro w hSw; (try dsimp only at hSw); go_simp; try with_reducible rfl)
  simp only [Act.put, List.setIfInBounds_toArray, List.set_cons_zero, List.set_cons_succ]
  refine wpAnyH_take (i := 2) (oi := { dst := some 33, op := Op.nilCheck (Operand.tmp 32), type := 0, pos := "heap.go:57", after := #[{ on := 1, ground := Ground.data }], guard := none }) (v := ?v3) rfl (by kernel_rfl) (by kernel_rfl) (by kernel_rfl) (fun _ _ _ h => h) (Or.inl ⟨by rfl, ?y3⟩) (by assumption) ?_
  case y3 => (intro w hSw; (try dsimp only at hSw); go_simp; try with_reducible rfl)
  simp only [Act.put, List.setIfInBounds_toArray, List.set_cons_zero, List.set_cons_succ]
  refine wpAnyH_take (i := 3) (oi := { dst := some 34, op := Op.fieldAddr 24 (Operand.tmp 33) 0, type := 0, pos := "heap.go:57", after := #[{ on := 2, ground := Ground.data }], guard := none }) (v := ?v4) rfl (by kernel_rfl) (by kernel_rfl) (by kernel_rfl) (fun _ _ _ h => h) (Or.inl ⟨by rfl, ?y4⟩) (by assumption) ?_
  case y4 => (intro w hSw; (try dsimp only at hSw); go_simp; try with_reducible rfl)
  simp only [Act.put, List.setIfInBounds_toArray, List.set_cons_zero, List.set_cons_succ]
  refine wpAnyH_take (i := 5) (oi := { dst := some 36, op := Op.move (Operand.tmp 1), type := 9, pos := "heap.go:57", after := #[], guard := none }) (v := ?v5) rfl (by kernel_rfl) (by kernel_rfl) (by kernel_rfl) (fun _ _ _ h => h) (Or.inl ⟨by rfl, ?y5⟩) (by assumption) ?_
  case y5 => (intro w hSw; (try dsimp only at hSw); go_simp; try with_reducible rfl)
  simp only [Act.put, List.setIfInBounds_toArray, List.set_cons_zero, List.set_cons_succ]
  refine wpAnyH_take (i := 6) (oi := { dst := some 37, op := Op.move (Operand.tmp 2), type := 9, pos := "heap.go:57", after := #[], guard := none }) (v := ?v6) rfl (by kernel_rfl) (by kernel_rfl) (by kernel_rfl) (fun _ _ _ h => h) (Or.inl ⟨by rfl, ?y6⟩) (by assumption) ?_
  case y6 => (intro w hSw; (try dsimp only at hSw); go_simp; try with_reducible rfl)
  simp only [Act.put, List.setIfInBounds_toArray, List.set_cons_zero, List.set_cons_succ]
  refine wpAnyH_take (i := 7) (oi := { dst := some 38, op := Op.move (Operand.tmp 10), type := 9, pos := "heap.go:57", after := #[], guard := none }) (v := ?v7) rfl (by kernel_rfl) (by kernel_rfl) (by kernel_rfl) (fun _ _ _ h => h) (Or.inl ⟨by rfl, ?y7⟩) (by assumption) ?_
  case y7 => (intro w hSw; (try dsimp only at hSw); go_simp; try with_reducible rfl)
  simp only [Act.put, List.setIfInBounds_toArray, List.set_cons_zero, List.set_cons_succ]
  refine wpAnyH_take (i := 10) (oi := { dst := some 41, op := Op.move (Operand.tmp 3), type := 3, pos := "heap.go:57", after := #[], guard := none }) (v := ?v8) rfl (by kernel_rfl) (by kernel_rfl) (by kernel_rfl) (fun _ _ _ h => h) (Or.inl ⟨by rfl, ?y8⟩) (by assumption) ?_
  case y8 => (intro w hSw; (try dsimp only at hSw); go_simp; try with_reducible rfl)
  simp only [Act.put, List.setIfInBounds_toArray, List.set_cons_zero, List.set_cons_succ]
  refine wpAnyH_ready (rs := [4, 8]) (by kernel_rfl) (by simp) ?_
  refine AllReadyH.cons (o := { dst := some 35, op := Op.load 22 (Operand.tmp 34), type := 22, pos := "heap.go:57", after := #[{ on := 3, ground := Ground.data }], guard := none }) rfl (fun K hK => ?_) (AllReadyH.cons (o := { dst := some 39, op := Op.call { callee := Callee.value (Operand.func 14), args := #[Operand.tmp 38], argTypes := #[9] }, type := 31, pos := "heap.go:57", after := #[{ on := 7, ground := Ground.data }], guard := none }) rfl (fun K hK => ?_) AllReadyH.nil)
  · skip
    go_simp
    refine hK.out _ _ (by assumption) (fun hHeld => ?_)
    clear hK K
    try simp only [Act.put, List.setIfInBounds_toArray, List.set_cons_zero, List.set_cons_succ]
    refine wpAnyH_ready (rs := [8]) (by kernel_rfl) (by simp) ?_
    refine AllReadyH.cons (o := { dst := some 39, op := Op.call { callee := Callee.value (Operand.func 14), args := #[Operand.tmp 38], argTypes := #[9] }, type := 31, pos := "heap.go:57", after := #[{ on := 7, ground := Ground.data }], guard := none }) rfl (fun K hK => ?_) AllReadyH.nil
    go_simp
    go_at_call 14; refine (zero14 _).mono ?_; rintro e w2 ⟨rfl, hB2⟩; have hn2 := (hB2.block b hbl).trans hn0; have hcur2 := hcur0.trans (hB2.mono (Nat.le_of_lt hbl)); have z2 := hB2.size; have hbl2 : b < w2.heap.size := (Array.getElem?_eq_some_iff.1 hn2).1; have k2 := cell_of_block (j := 0) hn2 rfl; clear hB2
    refine hK.out _ _ hcur2 (fun hHeld => ?_)
    clear hK K
    try simp only [Act.put, List.setIfInBounds_toArray, List.set_cons_zero, List.set_cons_succ]
    refine wpAnyH_ready (rs := [9]) (by kernel_rfl) (by simp) ?_
    refine AllReadyH.cons (o := { dst := some 40, op := Op.buildSlice 44 1 #[(0, Operand.tmp 39)], type := 44, pos := "heap.go:57", after := #[{ on := 8, ground := Ground.data }], guard := none }) rfl (fun K hK => ?_) AllReadyH.nil
    go_simp
    refine hK.out _ _ (hcur2.alloc (Nat.le_of_lt hbl2) _) (fun hHeld => ?_)
    clear hK K
    try simp only [Act.put, List.setIfInBounds_toArray, List.set_cons_zero, List.set_cons_succ]
    refine wpAnyH_ready (rs := [11]) (by kernel_rfl) (by simp) ?_
    refine AllReadyH.cons (o := { dst := some 42, op := Op.call { callee := Callee.value (Operand.func 13), args := #[Operand.tmp 40, Operand.tmp 41], argTypes := #[44, 3] }, type := 44, pos := "heap.go:57", after := #[{ on := 9, ground := Ground.data }, { on := 10, ground := Ground.data }, { on := 8, ground := Ground.chain }], guard := none }) rfl (fun K hK => ?_) AllReadyH.nil
    go_simp
    go_at_call 13; refine (repeat13 w2.heap.size n hn _ (heap_alloc_new w2 _)).mono ?_; rintro e w3 ⟨rfl, ⟨cur, hcur, hz, hsz⟩, hB3⟩; have hn3 := (hB3.block b (by rw [World.size_alloc]; omega)).trans ((Below.heap_alloc w2 _ b hbl2).trans hn2); have hcur3 := (hcur2.alloc (Nat.le_of_lt hbl2) _).trans (hB3.mono (by rw [World.size_alloc]; omega)); have hbl3 : b < w3.heap.size := (Array.getElem?_eq_some_iff.1 hn3).1; have k3 := cell_of_block (j := 0) hn3 rfl; have HCUR := Lib.hid hcur; have HZ := Lib.hid hz; have HSZ := Lib.hid hsz; clear hcur hz hsz hB3
    refine hK.out _ _ hcur3 (fun hHeld => ?_)
    clear hK K
    try simp only [Act.put, List.setIfInBounds_toArray, List.set_cons_zero, List.set_cons_succ]
    refine wpAnyH_take (i := 12) (oi := { dst := some 43, op := Op.build 49 #[(0, Operand.tmp 36), (1, Operand.tmp 37), (3, Operand.tmp 42), (4, Operand.const (Value.bool true))], type := 49, pos := "heap.go:57", after := #[{ on := 5, ground := Ground.data }, { on := 6, ground := Ground.data }, { on := 11, ground := Ground.data }], guard := none }) (v := ?v9) rfl (by kernel_rfl) (by kernel_rfl) (by kernel_rfl) (fun _ _ _ h => h) (Or.inl ⟨by rfl, ?y9⟩) (by assumption) ?_
    case y9 => (intro w hSw; (try dsimp only at hSw); go_simp; try with_reducible rfl)
    simp only [Act.put, List.setIfInBounds_toArray, List.set_cons_zero, List.set_cons_succ]
    refine wpAnyH_ready (rs := [13]) (by kernel_rfl) (by simp) ?_
    refine AllReadyH.cons (o := { dst := some 44, op := Op.box 49 (Operand.tmp 43), type := 43, pos := "heap.go:57", after := #[{ on := 12, ground := Ground.data }], guard := none }) rfl (fun K hK => ?_) AllReadyH.nil
    go_simp
    refine hK.out _ _ (hcur3.alloc (Nat.le_of_lt hbl3) _) (fun hHeld => ?_)
    clear hK K
    try simp only [Act.put, List.setIfInBounds_toArray, List.set_cons_zero, List.set_cons_succ]
    refine wpAnyH_ready (rs := [14]) (by kernel_rfl) (by simp) ?_
    refine AllReadyH.cons (o := { dst := some 45, op := Op.buildSlice 22 1 #[(0, Operand.tmp 44)], type := 22, pos := "heap.go:57", after := #[{ on := 13, ground := Ground.data }], guard := none }) rfl (fun K hK => ?_) AllReadyH.nil
    go_simp
    refine hK.out _ _ ((hcur3.alloc (Nat.le_of_lt hbl3) _).alloc (by rw [World.size_alloc]; omega) _) (fun hHeld => ?_)
    clear hK K
    try simp only [Act.put, List.setIfInBounds_toArray, List.set_cons_zero, List.set_cons_succ]
    refine wpAnyH_ready (rs := [15]) (by kernel_rfl) (by simp) ?_
    refine AllReadyH.cons (o := { dst := some 46, op := Op.call { callee := Callee.builtin Builtin.append, args := #[Operand.tmp 35, Operand.tmp 45], argTypes := #[22, 22] }, type := 22, pos := "heap.go:57", after := #[{ on := 4, ground := Ground.data }, { on := 14, ground := Ground.data }, { on := 11, ground := Ground.chain }], guard := none }) rfl (fun K hK => ?_) AllReadyH.nil
    (refine step_append_lies _ (by rfl) _ _ _ (by rfl) w3.heap.size 43 q _ 1 8 Try.underlying22 hq hq0 hq1 hq2 rfl (by omega) (.slice none 0 0) 0 [] (by rfl) (World.ownsRow_nil _ _ _ _) ⟨w3.heap.size + 1, 0, none⟩ 1 1 [.pointer (some ⟨w3.heap.size, 0, none⟩)] (by rfl) (by rfl) (fun j u hj => news_one hj) (by simp [Value.oneCell']) (by omega) (by unfold maxLen; omega) (by omega) (by simp; omega) (w3.heap.size + 1 + 1) (by simp) ?_; intro gg cap' w7 hown7 hgrow7 hat7 hlt7; have hcur7 := ((hcur3.alloc (Nat.le_of_lt hbl3) _).alloc (by rw [World.size_alloc]; omega) _).grown hgrow7 (by simp; omega) (fun q hq => by cases hq); have hn7 := (hgrow7.block b (by simp; omega) (fun e => by cases e)).trans ((Below.heap_alloc _ _ b (by rw [World.size_alloc]; omega)).trans ((Below.heap_alloc _ _ b hbl3).trans hn3)); have k7 := cell_of_block (j := 0) hn7 rfl; have f7 := frozen_of_block (j := 0) hn7; have ho7 := (hgrow7.block w3.heap.size (by simp; omega) (fun e => by cases e)).trans ((Below.heap_alloc _ _ w3.heap.size (by rw [World.size_alloc]; omega)).trans (heap_alloc_new w3 _)); have hz7 := (hgrow7.block _ (by have := (Array.getElem?_eq_some_iff.1 HCUR.out).1; simp at this ⊢; omega) (fun e => by cases e)).trans ((Below.heap_alloc _ _ _ (by have := (Array.getElem?_eq_some_iff.1 HCUR.out).1; simp at this ⊢; omega)).trans ((Below.heap_alloc _ _ _ (Array.getElem?_eq_some_iff.1 HCUR.out).1).trans HCUR.out)); have HO7 := Lib.hid hown7; have HOB := Lib.hid ho7; have HZB := Lib.hid hz7; have hgb := hown7.lt gg rfl; clear hown7 hgrow7 hat7 hlt7 ho7 hz7)
    refine hK.out _ _ hcur7 (fun hHeld => ?_)
    clear hK K
    try simp only [Act.put, List.setIfInBounds_toArray, List.set_cons_zero, List.set_cons_succ]
    refine wpAnyH_take (i := 16) (oi := { dst := some 47, op := Op.nilCheck (Operand.tmp 31), type := 0, pos := "heap.go:57", after := #[{ on := 0, ground := Ground.data }, { on := 0, ground := Ground.phase }, { on := 1, ground := Ground.phase }, { on := 2, ground := Ground.phase }, { on := 3, ground := Ground.phase }, { on := 4, ground := Ground.phase }, { on := 5, ground := Ground.phase }, { on := 6, ground := Ground.phase }, { on := 7, ground := Ground.phase }, { on := 8, ground := Ground.phase }, { on := 9, ground := Ground.phase }, { on := 10, ground := Ground.phase }, { on := 11, ground := Ground.phase }, { on := 12, ground := Ground.phase }, { on := 13, ground := Ground.phase }, { on := 14, ground := Ground.phase }, { on := 15, ground := Ground.phase }], guard := none }) (v := ?v10) rfl (by kernel_rfl) (by kernel_rfl) (by kernel_rfl) (fun _ _ _ h => h) (Or.inl ⟨by rfl, ?y10⟩) (by assumption) ?_
    case y10 => (intro w hSw; (try dsimp only at hSw); go_simp; try with_reducible rfl)
    simp only [Act.put, List.setIfInBounds_toArray, List.set_cons_zero, List.set_cons_succ]
    refine wpAnyH_take (i := 17) (oi := { dst := some 48, op := Op.fieldAddr 24 (Operand.tmp 47) 0, type := 0, pos := "heap.go:57", after := #[{ on := 16, ground := Ground.data }, { on := 0, ground := Ground.phase }, { on := 1, ground := Ground.phase }, { on := 2, ground := Ground.phase }, { on := 3, ground := Ground.phase }, { on := 4, ground := Ground.phase }, { on := 5, ground := Ground.phase }, { on := 6, ground := Ground.phase }, { on := 7, ground := Ground.phase }, { on := 8, ground := Ground.phase }, { on := 9, ground := Ground.phase }, { on := 10, ground := Ground.phase }, { on := 11, ground := Ground.phase }, { on := 12, ground := Ground.phase }, { on := 13, ground := Ground.phase }, { on := 14, ground := Ground.phase }, { on := 15, ground := Ground.phase }], guard := none }) (v := ?v11) rfl (by kernel_rfl) (by kernel_rfl) (by kernel_rfl) (fun _ _ _ h => h) (Or.inl ⟨by rfl, ?y11⟩) (by assumption) ?_
    case y11 => (intro w hSw; (try dsimp only at hSw); go_simp; try with_reducible rfl)
    simp only [Act.put, List.setIfInBounds_toArray, List.set_cons_zero, List.set_cons_succ]
    refine wpAnyH_ready (rs := [18]) (by kernel_rfl) (by simp) ?_
    refine AllReadyH.cons (o := { dst := none, op := Op.store 22 (Operand.tmp 48) (Operand.tmp 46), type := 0, pos := "heap.go:57", after := #[{ on := 17, ground := Ground.data }, { on := 15, ground := Ground.data }, { on := 15, ground := Ground.chain }, { on := 0, ground := Ground.phase }, { on := 1, ground := Ground.phase }, { on := 2, ground := Ground.phase }, { on := 3, ground := Ground.phase }, { on := 4, ground := Ground.phase }, { on := 5, ground := Ground.phase }, { on := 6, ground := Ground.phase }, { on := 7, ground := Ground.phase }, { on := 8, ground := Ground.phase }, { on := 9, ground := Ground.phase }, { on := 10, ground := Ground.phase }, { on := 11, ground := Ground.phase }, { on := 12, ground := Ground.phase }, { on := 13, ground := Ground.phase }, { on := 14, ground := Ground.phase }, { on := 15, ground := Ground.phase }], guard := none }) rfl (fun K hK => ?_) AllReadyH.nil
    go_simp
    refine hK.out _ _ (hcur7.setCell (Nat.le_refl _) _) (fun hHeld => ?_)
    clear hK K
    try simp only [Act.put, List.setIfInBounds_toArray, List.set_cons_zero, List.set_cons_succ]
    refine wpAnyH_done (by kernel_rfl) ?_ _
    have hw := set_block (v := .slice (some ⟨gg, 0, none⟩) 1 cap') hn7
    have kW := cell_of_block (j := 0) hw rfl
    have hzb := HZB.out
    rw [World.size_alloc] at hzb
    have hg7 := own_head HO7.out
    clear k7 f7 hn7
    go_wp2
    go_ret2
    exact ⟨rfl, ⟨gg, cap', w3.heap.size, w2.heap.size + 1, cur, hw, (World.cell?_of_block (Below.heap_setCell _ _ _ _ (by show gg ≠ b; omega))).trans hg7, (Below.heap_setCell _ _ _ _ (by show w3.heap.size ≠ b; omega)).trans HOB.out, (Below.heap_setCell _ _ _ _ (by show w2.heap.size + 1 ≠ b; omega)).trans hzb, HZ.out, HSZ.out⟩, hcur7.setCell (Nat.le_refl _) _⟩
  · skip
    go_simp
    go_at_call 14; refine (zero14 _).mono ?_; rintro e w2 ⟨rfl, hB2⟩; have hn2 := (hB2.block b hbl).trans hn0; have hcur2 := hcur0.trans (hB2.mono (Nat.le_of_lt hbl)); have z2 := hB2.size; have hbl2 : b < w2.heap.size := (Array.getElem?_eq_some_iff.1 hn2).1; have k2 := cell_of_block (j := 0) hn2 rfl; clear hB2
    refine hK.out _ _ hcur2 (fun hHeld => ?_)
    clear hK K
    try simp only [Act.put, List.setIfInBounds_toArray, List.set_cons_zero, List.set_cons_succ]
    refine wpAnyH_ready (rs := [4, 9]) (by kernel_rfl) (by simp) ?_
    refine AllReadyH.cons (o := { dst := some 35, op := Op.load 22 (Operand.tmp 34), type := 22, pos := "heap.go:57", after := #[{ on := 3, ground := Ground.data }], guard := none }) rfl (fun K hK => ?_) (AllReadyH.cons (o := { dst := some 40, op := Op.buildSlice 44 1 #[(0, Operand.tmp 39)], type := 44, pos := "heap.go:57", after := #[{ on := 8, ground := Ground.data }], guard := none }) rfl (fun K hK => ?_) AllReadyH.nil)
    · skip
      go_simp
      refine hK.out _ _ (by assumption) (fun hHeld => ?_)
      clear hK K
      try simp only [Act.put, List.setIfInBounds_toArray, List.set_cons_zero, List.set_cons_succ]
      refine wpAnyH_ready (rs := [9]) (by kernel_rfl) (by simp) ?_
      refine AllReadyH.cons (o := { dst := some 40, op := Op.buildSlice 44 1 #[(0, Operand.tmp 39)], type := 44, pos := "heap.go:57", after := #[{ on := 8, ground := Ground.data }], guard := none }) rfl (fun K hK => ?_) AllReadyH.nil
      go_simp
      refine hK.out _ _ (hcur2.alloc (Nat.le_of_lt hbl2) _) (fun hHeld => ?_)
      clear hK K
      try simp only [Act.put, List.setIfInBounds_toArray, List.set_cons_zero, List.set_cons_succ]
      refine wpAnyH_ready (rs := [11]) (by kernel_rfl) (by simp) ?_
      refine AllReadyH.cons (o := { dst := some 42, op := Op.call { callee := Callee.value (Operand.func 13), args := #[Operand.tmp 40, Operand.tmp 41], argTypes := #[44, 3] }, type := 44, pos := "heap.go:57", after := #[{ on := 9, ground := Ground.data }, { on := 10, ground := Ground.data }, { on := 8, ground := Ground.chain }], guard := none }) rfl (fun K hK => ?_) AllReadyH.nil
      go_simp
      go_at_call 13; refine (repeat13 w2.heap.size n hn _ (heap_alloc_new w2 _)).mono ?_; rintro e w3 ⟨rfl, ⟨cur, hcur, hz, hsz⟩, hB3⟩; have hn3 := (hB3.block b (by rw [World.size_alloc]; omega)).trans ((Below.heap_alloc w2 _ b hbl2).trans hn2); have hcur3 := (hcur2.alloc (Nat.le_of_lt hbl2) _).trans (hB3.mono (by rw [World.size_alloc]; omega)); have hbl3 : b < w3.heap.size := (Array.getElem?_eq_some_iff.1 hn3).1; have k3 := cell_of_block (j := 0) hn3 rfl; have HCUR := Lib.hid hcur; have HZ := Lib.hid hz; have HSZ := Lib.hid hsz; clear hcur hz hsz hB3
      refine hK.out _ _ hcur3 (fun hHeld => ?_)
      clear hK K
      try simp only [Act.put, List.setIfInBounds_toArray, List.set_cons_zero, List.set_cons_succ]
      refine wpAnyH_take (i := 12) (oi := { dst := some 43, op := Op.build 49 #[(0, Operand.tmp 36), (1, Operand.tmp 37), (3, Operand.tmp 42), (4, Operand.const (Value.bool true))], type := 49, pos := "heap.go:57", after := #[{ on := 5, ground := Ground.data }, { on := 6, ground := Ground.data }, { on := 11, ground := Ground.data }], guard := none }) (v := ?v12) rfl (by kernel_rfl) (by kernel_rfl) (by kernel_rfl) (fun _ _ _ h => h) (Or.inl ⟨by rfl, ?y12⟩) (by assumption) ?_
      case y12 => (intro w hSw; (try dsimp only at hSw); go_simp; try with_reducible rfl)
      simp only [Act.put, List.setIfInBounds_toArray, List.set_cons_zero, List.set_cons_succ]
      refine wpAnyH_ready (rs := [13]) (by kernel_rfl) (by simp) ?_
      refine AllReadyH.cons (o := { dst := some 44, op := Op.box 49 (Operand.tmp 43), type := 43, pos := "heap.go:57", after := #[{ on := 12, ground := Ground.data }], guard := none }) rfl (fun K hK => ?_) AllReadyH.nil
      go_simp
      refine hK.out _ _ (hcur3.alloc (Nat.le_of_lt hbl3) _) (fun hHeld => ?_)
      clear hK K
      try simp only [Act.put, List.setIfInBounds_toArray, List.set_cons_zero, List.set_cons_succ]
      refine wpAnyH_ready (rs := [14]) (by kernel_rfl) (by simp) ?_
      refine AllReadyH.cons (o := { dst := some 45, op := Op.buildSlice 22 1 #[(0, Operand.tmp 44)], type := 22, pos := "heap.go:57", after := #[{ on := 13, ground := Ground.data }], guard := none }) rfl (fun K hK => ?_) AllReadyH.nil
      go_simp
      refine hK.out _ _ ((hcur3.alloc (Nat.le_of_lt hbl3) _).alloc (by rw [World.size_alloc]; omega) _) (fun hHeld => ?_)
      clear hK K
      try simp only [Act.put, List.setIfInBounds_toArray, List.set_cons_zero, List.set_cons_succ]
      refine wpAnyH_ready (rs := [15]) (by kernel_rfl) (by simp) ?_
      refine AllReadyH.cons (o := { dst := some 46, op := Op.call { callee := Callee.builtin Builtin.append, args := #[Operand.tmp 35, Operand.tmp 45], argTypes := #[22, 22] }, type := 22, pos := "heap.go:57", after := #[{ on := 4, ground := Ground.data }, { on := 14, ground := Ground.data }, { on := 11, ground := Ground.chain }], guard := none }) rfl (fun K hK => ?_) AllReadyH.nil
      (refine step_append_lies _ (by rfl) _ _ _ (by rfl) w3.heap.size 43 q _ 1 8 Try.underlying22 hq hq0 hq1 hq2 rfl (by omega) (.slice none 0 0) 0 [] (by rfl) (World.ownsRow_nil _ _ _ _) ⟨w3.heap.size + 1, 0, none⟩ 1 1 [.pointer (some ⟨w3.heap.size, 0, none⟩)] (by rfl) (by rfl) (fun j u hj => news_one hj) (by simp [Value.oneCell']) (by omega) (by unfold maxLen; omega) (by omega) (by simp; omega) (w3.heap.size + 1 + 1) (by simp) ?_; intro gg cap' w7 hown7 hgrow7 hat7 hlt7; have hcur7 := ((hcur3.alloc (Nat.le_of_lt hbl3) _).alloc (by rw [World.size_alloc]; omega) _).grown hgrow7 (by simp; omega) (fun q hq => by cases hq); have hn7 := (hgrow7.block b (by simp; omega) (fun e => by cases e)).trans ((Below.heap_alloc _ _ b (by rw [World.size_alloc]; omega)).trans ((Below.heap_alloc _ _ b hbl3).trans hn3)); have k7 := cell_of_block (j := 0) hn7 rfl; have f7 := frozen_of_block (j := 0) hn7; have ho7 := (hgrow7.block w3.heap.size (by simp; omega) (fun e => by cases e)).trans ((Below.heap_alloc _ _ w3.heap.size (by rw [World.size_alloc]; omega)).trans (heap_alloc_new w3 _)); have hz7 := (hgrow7.block _ (by have := (Array.getElem?_eq_some_iff.1 HCUR.out).1; simp at this ⊢; omega) (fun e => by cases e)).trans ((Below.heap_alloc _ _ _ (by have := (Array.getElem?_eq_some_iff.1 HCUR.out).1; simp at this ⊢; omega)).trans ((Below.heap_alloc _ _ _ (Array.getElem?_eq_some_iff.1 HCUR.out).1).trans HCUR.out)); have HO7 := Lib.hid hown7; have HOB := Lib.hid ho7; have HZB := Lib.hid hz7; have hgb := hown7.lt gg rfl; clear hown7 hgrow7 hat7 hlt7 ho7 hz7)
      refine hK.out _ _ hcur7 (fun hHeld => ?_)
      clear hK K
      try simp only [Act.put, List.setIfInBounds_toArray, List.set_cons_zero, List.set_cons_succ]
      refine wpAnyH_take (i := 16) (oi := { dst := some 47, op := Op.nilCheck (Operand.tmp 31), type := 0, pos := "heap.go:57", after := #[{ on := 0, ground := Ground.data }, { on := 0, ground := Ground.phase }, { on := 1, ground := Ground.phase }, { on := 2, ground := Ground.phase }, { on := 3, ground := Ground.phase }, { on := 4, ground := Ground.phase }, { on := 5, ground := Ground.phase }, { on := 6, ground := Ground.phase }, { on := 7, ground := Ground.phase }, { on := 8, ground := Ground.phase }, { on := 9, ground := Ground.phase }, { on := 10, ground := Ground.phase }, { on := 11, ground := Ground.phase }, { on := 12, ground := Ground.phase }, { on := 13, ground := Ground.phase }, { on := 14, ground := Ground.phase }, { on := 15, ground := Ground.phase }], guard := none }) (v := ?v13) rfl (by kernel_rfl) (by kernel_rfl) (by kernel_rfl) (fun _ _ _ h => h) (Or.inl ⟨by rfl, ?y13⟩) (by assumption) ?_
      case y13 => (intro w hSw; (try dsimp only at hSw); go_simp; try with_reducible rfl)
      simp only [Act.put, List.setIfInBounds_toArray, List.set_cons_zero, List.set_cons_succ]
      refine wpAnyH_take (i := 17) (oi := { dst := some 48, op := Op.fieldAddr 24 (Operand.tmp 47) 0, type := 0, pos := "heap.go:57", after := #[{ on := 16, ground := Ground.data }, { on := 0, ground := Ground.phase }, { on := 1, ground := Ground.phase }, { on := 2, ground := Ground.phase }, { on := 3, ground := Ground.phase }, { on := 4, ground := Ground.phase }, { on := 5, ground := Ground.phase }, { on := 6, ground := Ground.phase }, { on := 7, ground := Ground.phase }, { on := 8, ground := Ground.phase }, { on := 9, ground := Ground.phase }, { on := 10, ground := Ground.phase }, { on := 11, ground := Ground.phase }, { on := 12, ground := Ground.phase }, { on := 13, ground := Ground.phase }, { on := 14, ground := Ground.phase }, { on := 15, ground := Ground.phase }], guard := none }) (v := ?v14) rfl (by kernel_rfl) (by kernel_rfl) (by kernel_rfl) (fun _ _ _ h => h) (Or.inl ⟨by rfl, ?y14⟩) (by assumption) ?_
      case y14 => (intro w hSw; (try dsimp only at hSw); go_simp; try with_reducible rfl)
      simp only [Act.put, List.setIfInBounds_toArray, List.set_cons_zero, List.set_cons_succ]
      refine wpAnyH_ready (rs := [18]) (by kernel_rfl) (by simp) ?_
      refine AllReadyH.cons (o := { dst := none, op := Op.store 22 (Operand.tmp 48) (Operand.tmp 46), type := 0, pos := "heap.go:57", after := #[{ on := 17, ground := Ground.data }, { on := 15, ground := Ground.data }, { on := 15, ground := Ground.chain }, { on := 0, ground := Ground.phase }, { on := 1, ground := Ground.phase }, { on := 2, ground := Ground.phase }, { on := 3, ground := Ground.phase }, { on := 4, ground := Ground.phase }, { on := 5, ground := Ground.phase }, { on := 6, ground := Ground.phase }, { on := 7, ground := Ground.phase }, { on := 8, ground := Ground.phase }, { on := 9, ground := Ground.phase }, { on := 10, ground := Ground.phase }, { on := 11, ground := Ground.phase }, { on := 12, ground := Ground.phase }, { on := 13, ground := Ground.phase }, { on := 14, ground := Ground.phase }, { on := 15, ground := Ground.phase }], guard := none }) rfl (fun K hK => ?_) AllReadyH.nil
      go_simp
      refine hK.out _ _ (hcur7.setCell (Nat.le_refl _) _) (fun hHeld => ?_)
      clear hK K
      try simp only [Act.put, List.setIfInBounds_toArray, List.set_cons_zero, List.set_cons_succ]
      refine wpAnyH_done (by kernel_rfl) ?_ _
      have hw := set_block (v := .slice (some ⟨gg, 0, none⟩) 1 cap') hn7
      have kW := cell_of_block (j := 0) hw rfl
      have hzb := HZB.out
      rw [World.size_alloc] at hzb
      have hg7 := own_head HO7.out
      clear k7 f7 hn7
      go_wp2
      go_ret2
      exact ⟨rfl, ⟨gg, cap', w3.heap.size, w2.heap.size + 1, cur, hw, (World.cell?_of_block (Below.heap_setCell _ _ _ _ (by show gg ≠ b; omega))).trans hg7, (Below.heap_setCell _ _ _ _ (by show w3.heap.size ≠ b; omega)).trans HOB.out, (Below.heap_setCell _ _ _ _ (by show w2.heap.size + 1 ≠ b; omega)).trans hzb, HZ.out, HSZ.out⟩, hcur7.setCell (Nat.le_refl _) _⟩
    · skip
      go_simp
      refine hK.out _ _ (hcur2.alloc (Nat.le_of_lt hbl2) _) (fun hHeld => ?_)
      clear hK K
      try simp only [Act.put, List.setIfInBounds_toArray, List.set_cons_zero, List.set_cons_succ]
      refine wpAnyH_ready (rs := [4, 11]) (by kernel_rfl) (by simp) ?_
      refine AllReadyH.cons (o := { dst := some 35, op := Op.load 22 (Operand.tmp 34), type := 22, pos := "heap.go:57", after := #[{ on := 3, ground := Ground.data }], guard := none }) rfl (fun K hK => ?_) (AllReadyH.cons (o := { dst := some 42, op := Op.call { callee := Callee.value (Operand.func 13), args := #[Operand.tmp 40, Operand.tmp 41], argTypes := #[44, 3] }, type := 44, pos := "heap.go:57", after := #[{ on := 9, ground := Ground.data }, { on := 10, ground := Ground.data }, { on := 8, ground := Ground.chain }], guard := none }) rfl (fun K hK => ?_) AllReadyH.nil)
      · skip
        go_simp
        refine hK.out _ _ (by assumption) (fun hHeld => ?_)
        clear hK K
        try simp only [Act.put, List.setIfInBounds_toArray, List.set_cons_zero, List.set_cons_succ]
        refine wpAnyH_ready (rs := [11]) (by kernel_rfl) (by simp) ?_
        refine AllReadyH.cons (o := { dst := some 42, op := Op.call { callee := Callee.value (Operand.func 13), args := #[Operand.tmp 40, Operand.tmp 41], argTypes := #[44, 3] }, type := 44, pos := "heap.go:57", after := #[{ on := 9, ground := Ground.data }, { on := 10, ground := Ground.data }, { on := 8, ground := Ground.chain }], guard := none }) rfl (fun K hK => ?_) AllReadyH.nil
        go_simp
        go_at_call 13; refine (repeat13 w2.heap.size n hn _ (heap_alloc_new w2 _)).mono ?_; rintro e w3 ⟨rfl, ⟨cur, hcur, hz, hsz⟩, hB3⟩; have hn3 := (hB3.block b (by rw [World.size_alloc]; omega)).trans ((Below.heap_alloc w2 _ b hbl2).trans hn2); have hcur3 := (hcur2.alloc (Nat.le_of_lt hbl2) _).trans (hB3.mono (by rw [World.size_alloc]; omega)); have hbl3 : b < w3.heap.size := (Array.getElem?_eq_some_iff.1 hn3).1; have k3 := cell_of_block (j := 0) hn3 rfl; have HCUR := Lib.hid hcur; have HZ := Lib.hid hz; have HSZ := Lib.hid hsz; clear hcur hz hsz hB3
        refine hK.out _ _ hcur3 (fun hHeld => ?_)
        clear hK K
        try simp only [Act.put, List.setIfInBounds_toArray, List.set_cons_zero, List.set_cons_succ]
        refine wpAnyH_take (i := 12) (oi := { dst := some 43, op := Op.build 49 #[(0, Operand.tmp 36), (1, Operand.tmp 37), (3, Operand.tmp 42), (4, Operand.const (Value.bool true))], type := 49, pos := "heap.go:57", after := #[{ on := 5, ground := Ground.data }, { on := 6, ground := Ground.data }, { on := 11, ground := Ground.data }], guard := none }) (v := ?v15) rfl (by kernel_rfl) (by kernel_rfl) (by kernel_rfl) (fun _ _ _ h => h) (Or.inl ⟨by rfl, ?y15⟩) (by assumption) ?_
        case y15 => (intro w hSw; (try dsimp only at hSw); go_simp; try with_reducible rfl)
        simp only [Act.put, List.setIfInBounds_toArray, List.set_cons_zero, List.set_cons_succ]
        refine wpAnyH_ready (rs := [13]) (by kernel_rfl) (by simp) ?_
        refine AllReadyH.cons (o := { dst := some 44, op := Op.box 49 (Operand.tmp 43), type := 43, pos := "heap.go:57", after := #[{ on := 12, ground := Ground.data }], guard := none }) rfl (fun K hK => ?_) AllReadyH.nil
        go_simp
        refine hK.out _ _ (hcur3.alloc (Nat.le_of_lt hbl3) _) (fun hHeld => ?_)
        clear hK K
        try simp only [Act.put, List.setIfInBounds_toArray, List.set_cons_zero, List.set_cons_succ]
        refine wpAnyH_ready (rs := [14]) (by kernel_rfl) (by simp) ?_
        refine AllReadyH.cons (o := { dst := some 45, op := Op.buildSlice 22 1 #[(0, Operand.tmp 44)], type := 22, pos := "heap.go:57", after := #[{ on := 13, ground := Ground.data }], guard := none }) rfl (fun K hK => ?_) AllReadyH.nil
        go_simp
        refine hK.out _ _ ((hcur3.alloc (Nat.le_of_lt hbl3) _).alloc (by rw [World.size_alloc]; omega) _) (fun hHeld => ?_)
        clear hK K
        try simp only [Act.put, List.setIfInBounds_toArray, List.set_cons_zero, List.set_cons_succ]
        refine wpAnyH_ready (rs := [15]) (by kernel_rfl) (by simp) ?_
        refine AllReadyH.cons (o := { dst := some 46, op := Op.call { callee := Callee.builtin Builtin.append, args := #[Operand.tmp 35, Operand.tmp 45], argTypes := #[22, 22] }, type := 22, pos := "heap.go:57", after := #[{ on := 4, ground := Ground.data }, { on := 14, ground := Ground.data }, { on := 11, ground := Ground.chain }], guard := none }) rfl (fun K hK => ?_) AllReadyH.nil
        (refine step_append_lies _ (by rfl) _ _ _ (by rfl) w3.heap.size 43 q _ 1 8 Try.underlying22 hq hq0 hq1 hq2 rfl (by omega) (.slice none 0 0) 0 [] (by rfl) (World.ownsRow_nil _ _ _ _) ⟨w3.heap.size + 1, 0, none⟩ 1 1 [.pointer (some ⟨w3.heap.size, 0, none⟩)] (by rfl) (by rfl) (fun j u hj => news_one hj) (by simp [Value.oneCell']) (by omega) (by unfold maxLen; omega) (by omega) (by simp; omega) (w3.heap.size + 1 + 1) (by simp) ?_; intro gg cap' w7 hown7 hgrow7 hat7 hlt7; have hcur7 := ((hcur3.alloc (Nat.le_of_lt hbl3) _).alloc (by rw [World.size_alloc]; omega) _).grown hgrow7 (by simp; omega) (fun q hq => by cases hq); have hn7 := (hgrow7.block b (by simp; omega) (fun e => by cases e)).trans ((Below.heap_alloc _ _ b (by rw [World.size_alloc]; omega)).trans ((Below.heap_alloc _ _ b hbl3).trans hn3)); have k7 := cell_of_block (j := 0) hn7 rfl; have f7 := frozen_of_block (j := 0) hn7; have ho7 := (hgrow7.block w3.heap.size (by simp; omega) (fun e => by cases e)).trans ((Below.heap_alloc _ _ w3.heap.size (by rw [World.size_alloc]; omega)).trans (heap_alloc_new w3 _)); have hz7 := (hgrow7.block _ (by have := (Array.getElem?_eq_some_iff.1 HCUR.out).1; simp at this ⊢; omega) (fun e => by cases e)).trans ((Below.heap_alloc _ _ _ (by have := (Array.getElem?_eq_some_iff.1 HCUR.out).1; simp at this ⊢; omega)).trans ((Below.heap_alloc _ _ _ (Array.getElem?_eq_some_iff.1 HCUR.out).1).trans HCUR.out)); have HO7 := Lib.hid hown7; have HOB := Lib.hid ho7; have HZB := Lib.hid hz7; have hgb := hown7.lt gg rfl; clear hown7 hgrow7 hat7 hlt7 ho7 hz7)
        refine hK.out _ _ hcur7 (fun hHeld => ?_)
        clear hK K
        try simp only [Act.put, List.setIfInBounds_toArray, List.set_cons_zero, List.set_cons_succ]
        refine wpAnyH_take (i := 16) (oi := { dst := some 47, op := Op.nilCheck (Operand.tmp 31), type := 0, pos := "heap.go:57", after := #[{ on := 0, ground := Ground.data }, { on := 0, ground := Ground.phase }, { on := 1, ground := Ground.phase }, { on := 2, ground := Ground.phase }, { on := 3, ground := Ground.phase }, { on := 4, ground := Ground.phase }, { on := 5, ground := Ground.phase }, { on := 6, ground := Ground.phase }, { on := 7, ground := Ground.phase }, { on := 8, ground := Ground.phase }, { on := 9, ground := Ground.phase }, { on := 10, ground := Ground.phase }, { on := 11, ground := Ground.phase }, { on := 12, ground := Ground.phase }, { on := 13, ground := Ground.phase }, { on := 14, ground := Ground.phase }, { on := 15, ground := Ground.phase }], guard := none }) (v := ?v16) rfl (by kernel_rfl) (by kernel_rfl) (by kernel_rfl) (fun _ _ _ h => h) (Or.inl ⟨by rfl, ?y16⟩) (by assumption) ?_
        case y16 => (intro w hSw; (try dsimp only at hSw); go_simp; try with_reducible rfl)
        simp only [Act.put, List.setIfInBounds_toArray, List.set_cons_zero, List.set_cons_succ]
        refine wpAnyH_take (i := 17) (oi := { dst := some 48, op := Op.fieldAddr 24 (Operand.tmp 47) 0, type := 0, pos := "heap.go:57", after := #[{ on := 16, ground := Ground.data }, { on := 0, ground := Ground.phase }, { on := 1, ground := Ground.phase }, { on := 2, ground := Ground.phase }, { on := 3, ground := Ground.phase }, { on := 4, ground := Ground.phase }, { on := 5, ground := Ground.phase }, { on := 6, ground := Ground.phase }, { on := 7, ground := Ground.phase }, { on := 8, ground := Ground.phase }, { on := 9, ground := Ground.phase }, { on := 10, ground := Ground.phase }, { on := 11, ground := Ground.phase }, { on := 12, ground := Ground.phase }, { on := 13, ground := Ground.phase }, { on := 14, ground := Ground.phase }, { on := 15, ground := Ground.phase }], guard := none }) (v := ?v17) rfl (by kernel_rfl) (by kernel_rfl) (by kernel_rfl) (fun _ _ _ h => h) (Or.inl ⟨by rfl, ?y17⟩) (by assumption) ?_
        case y17 => (intro w hSw; (try dsimp only at hSw); go_simp; try with_reducible rfl)
        simp only [Act.put, List.setIfInBounds_toArray, List.set_cons_zero, List.set_cons_succ]
        refine wpAnyH_ready (rs := [18]) (by kernel_rfl) (by simp) ?_
        refine AllReadyH.cons (o := { dst := none, op := Op.store 22 (Operand.tmp 48) (Operand.tmp 46), type := 0, pos := "heap.go:57", after := #[{ on := 17, ground := Ground.data }, { on := 15, ground := Ground.data }, { on := 15, ground := Ground.chain }, { on := 0, ground := Ground.phase }, { on := 1, ground := Ground.phase }, { on := 2, ground := Ground.phase }, { on := 3, ground := Ground.phase }, { on := 4, ground := Ground.phase }, { on := 5, ground := Ground.phase }, { on := 6, ground := Ground.phase }, { on := 7, ground := Ground.phase }, { on := 8, ground := Ground.phase }, { on := 9, ground := Ground.phase }, { on := 10, ground := Ground.phase }, { on := 11, ground := Ground.phase }, { on := 12, ground := Ground.phase }, { on := 13, ground := Ground.phase }, { on := 14, ground := Ground.phase }, { on := 15, ground := Ground.phase }], guard := none }) rfl (fun K hK => ?_) AllReadyH.nil
        go_simp
        refine hK.out _ _ (hcur7.setCell (Nat.le_refl _) _) (fun hHeld => ?_)
        clear hK K
        try simp only [Act.put, List.setIfInBounds_toArray, List.set_cons_zero, List.set_cons_succ]
        refine wpAnyH_done (by kernel_rfl) ?_ _
        have hw := set_block (v := .slice (some ⟨gg, 0, none⟩) 1 cap') hn7
        have kW := cell_of_block (j := 0) hw rfl
        have hzb := HZB.out
        rw [World.size_alloc] at hzb
        have hg7 := own_head HO7.out
        clear k7 f7 hn7
        go_wp2
        go_ret2
        exact ⟨rfl, ⟨gg, cap', w3.heap.size, w2.heap.size + 1, cur, hw, (World.cell?_of_block (Below.heap_setCell _ _ _ _ (by show gg ≠ b; omega))).trans hg7, (Below.heap_setCell _ _ _ _ (by show w3.heap.size ≠ b; omega)).trans HOB.out, (Below.heap_setCell _ _ _ _ (by show w2.heap.size + 1 ≠ b; omega)).trans hzb, HZ.out, HSZ.out⟩, hcur7.setCell (Nat.le_refl _) _⟩
      · skip
        go_simp
        go_at_call 13; refine (repeat13 w2.heap.size n hn _ (heap_alloc_new w2 _)).mono ?_; rintro e w3 ⟨rfl, ⟨cur, hcur, hz, hsz⟩, hB3⟩; have hn3 := (hB3.block b (by rw [World.size_alloc]; omega)).trans ((Below.heap_alloc w2 _ b hbl2).trans hn2); have hcur3 := (hcur2.alloc (Nat.le_of_lt hbl2) _).trans (hB3.mono (by rw [World.size_alloc]; omega)); have hbl3 : b < w3.heap.size := (Array.getElem?_eq_some_iff.1 hn3).1; have k3 := cell_of_block (j := 0) hn3 rfl; have HCUR := Lib.hid hcur; have HZ := Lib.hid hz; have HSZ := Lib.hid hsz; clear hcur hz hsz hB3
        refine hK.out _ _ hcur3 (fun hHeld => ?_)
        clear hK K
        try simp only [Act.put, List.setIfInBounds_toArray, List.set_cons_zero, List.set_cons_succ]
        refine wpAnyH_take (i := 12) (oi := { dst := some 43, op := Op.build 49 #[(0, Operand.tmp 36), (1, Operand.tmp 37), (3, Operand.tmp 42), (4, Operand.const (Value.bool true))], type := 49, pos := "heap.go:57", after := #[{ on := 5, ground := Ground.data }, { on := 6, ground := Ground.data }, { on := 11, ground := Ground.data }], guard := none }) (v := ?v18) rfl (by kernel_rfl) (by kernel_rfl) (by kernel_rfl) (fun _ _ _ h => h) (Or.inl ⟨by rfl, ?y18⟩) (by assumption) ?_
        case y18 => (intro w hSw; (try dsimp only at hSw); go_simp; try with_reducible rfl)
        simp only [Act.put, List.setIfInBounds_toArray, List.set_cons_zero, List.set_cons_succ]
        refine wpAnyH_ready (rs := [4, 13]) (by kernel_rfl) (by simp) ?_
        refine AllReadyH.cons (o := { dst := some 35, op := Op.load 22 (Operand.tmp 34), type := 22, pos := "heap.go:57", after := #[{ on := 3, ground := Ground.data }], guard := none }) rfl (fun K hK => ?_) (AllReadyH.cons (o := { dst := some 44, op := Op.box 49 (Operand.tmp 43), type := 43, pos := "heap.go:57", after := #[{ on := 12, ground := Ground.data }], guard := none }) rfl (fun K hK => ?_) AllReadyH.nil)
        · skip
          go_simp
          refine hK.out _ _ (by assumption) (fun hHeld => ?_)
          clear hK K
          try simp only [Act.put, List.setIfInBounds_toArray, List.set_cons_zero, List.set_cons_succ]
          refine wpAnyH_ready (rs := [13]) (by kernel_rfl) (by simp) ?_
          refine AllReadyH.cons (o := { dst := some 44, op := Op.box 49 (Operand.tmp 43), type := 43, pos := "heap.go:57", after := #[{ on := 12, ground := Ground.data }], guard := none }) rfl (fun K hK => ?_) AllReadyH.nil
          go_simp
          refine hK.out _ _ (hcur3.alloc (Nat.le_of_lt hbl3) _) (fun hHeld => ?_)
          clear hK K
          try simp only [Act.put, List.setIfInBounds_toArray, List.set_cons_zero, List.set_cons_succ]
          refine wpAnyH_ready (rs := [14]) (by kernel_rfl) (by simp) ?_
          refine AllReadyH.cons (o := { dst := some 45, op := Op.buildSlice 22 1 #[(0, Operand.tmp 44)], type := 22, pos := "heap.go:57", after := #[{ on := 13, ground := Ground.data }], guard := none }) rfl (fun K hK => ?_) AllReadyH.nil
          go_simp
          refine hK.out _ _ ((hcur3.alloc (Nat.le_of_lt hbl3) _).alloc (by rw [World.size_alloc]; omega) _) (fun hHeld => ?_)
          clear hK K
          try simp only [Act.put, List.setIfInBounds_toArray, List.set_cons_zero, List.set_cons_succ]
          refine wpAnyH_ready (rs := [15]) (by kernel_rfl) (by simp) ?_
          refine AllReadyH.cons (o := { dst := some 46, op := Op.call { callee := Callee.builtin Builtin.append, args := #[Operand.tmp 35, Operand.tmp 45], argTypes := #[22, 22] }, type := 22, pos := "heap.go:57", after := #[{ on := 4, ground := Ground.data }, { on := 14, ground := Ground.data }, { on := 11, ground := Ground.chain }], guard := none }) rfl (fun K hK => ?_) AllReadyH.nil
          (refine step_append_lies _ (by rfl) _ _ _ (by rfl) w3.heap.size 43 q _ 1 8 Try.underlying22 hq hq0 hq1 hq2 rfl (by omega) (.slice none 0 0) 0 [] (by rfl) (World.ownsRow_nil _ _ _ _) ⟨w3.heap.size + 1, 0, none⟩ 1 1 [.pointer (some ⟨w3.heap.size, 0, none⟩)] (by rfl) (by rfl) (fun j u hj => news_one hj) (by simp [Value.oneCell']) (by omega) (by unfold maxLen; omega) (by omega) (by simp; omega) (w3.heap.size + 1 + 1) (by simp) ?_; intro gg cap' w7 hown7 hgrow7 hat7 hlt7; have hcur7 := ((hcur3.alloc (Nat.le_of_lt hbl3) _).alloc (by rw [World.size_alloc]; omega) _).grown hgrow7 (by simp; omega) (fun q hq => by cases hq); have hn7 := (hgrow7.block b (by simp; omega) (fun e => by cases e)).trans ((Below.heap_alloc _ _ b (by rw [World.size_alloc]; omega)).trans ((Below.heap_alloc _ _ b hbl3).trans hn3)); have k7 := cell_of_block (j := 0) hn7 rfl; have f7 := frozen_of_block (j := 0) hn7; have ho7 := (hgrow7.block w3.heap.size (by simp; omega) (fun e => by cases e)).trans ((Below.heap_alloc _ _ w3.heap.size (by rw [World.size_alloc]; omega)).trans (heap_alloc_new w3 _)); have hz7 := (hgrow7.block _ (by have := (Array.getElem?_eq_some_iff.1 HCUR.out).1; simp at this ⊢; omega) (fun e => by cases e)).trans ((Below.heap_alloc _ _ _ (by have := (Array.getElem?_eq_some_iff.1 HCUR.out).1; simp at this ⊢; omega)).trans ((Below.heap_alloc _ _ _ (Array.getElem?_eq_some_iff.1 HCUR.out).1).trans HCUR.out)); have HO7 := Lib.hid hown7; have HOB := Lib.hid ho7; have HZB := Lib.hid hz7; have hgb := hown7.lt gg rfl; clear hown7 hgrow7 hat7 hlt7 ho7 hz7)
          refine hK.out _ _ hcur7 (fun hHeld => ?_)
          clear hK K
          try simp only [Act.put, List.setIfInBounds_toArray, List.set_cons_zero, List.set_cons_succ]
          refine wpAnyH_take (i := 16) (oi := { dst := some 47, op := Op.nilCheck (Operand.tmp 31), type := 0, pos := "heap.go:57", after := #[{ on := 0, ground := Ground.data }, { on := 0, ground := Ground.phase }, { on := 1, ground := Ground.phase }, { on := 2, ground := Ground.phase }, { on := 3, ground := Ground.phase }, { on := 4, ground := Ground.phase }, { on := 5, ground := Ground.phase }, { on := 6, ground := Ground.phase }, { on := 7, ground := Ground.phase }, { on := 8, ground := Ground.phase }, { on := 9, ground := Ground.phase }, { on := 10, ground := Ground.phase }, { on := 11, ground := Ground.phase }, { on := 12, ground := Ground.phase }, { on := 13, ground := Ground.phase }, { on := 14, ground := Ground.phase }, { on := 15, ground := Ground.phase }], guard := none }) (v := ?v19) rfl (by kernel_rfl) (by kernel_rfl) (by kernel_rfl) (fun _ _ _ h => h) (Or.inl ⟨by rfl, ?y19⟩) (by assumption) ?_
          case y19 => (intro w hSw; (try dsimp only at hSw); go_simp; try with_reducible rfl)
          simp only [Act.put, List.setIfInBounds_toArray, List.set_cons_zero, List.set_cons_succ]
          refine wpAnyH_take (i := 17) (oi := { dst := some 48, op := Op.fieldAddr 24 (Operand.tmp 47) 0, type := 0, pos := "heap.go:57", after := #[{ on := 16, ground := Ground.data }, { on := 0, ground := Ground.phase }, { on := 1, ground := Ground.phase }, { on := 2, ground := Ground.phase }, { on := 3, ground := Ground.phase }, { on := 4, ground := Ground.phase }, { on := 5, ground := Ground.phase }, { on := 6, ground := Ground.phase }, { on := 7, ground := Ground.phase }, { on := 8, ground := Ground.phase }, { on := 9, ground := Ground.phase }, { on := 10, ground := Ground.phase }, { on := 11, ground := Ground.phase }, { on := 12, ground := Ground.phase }, { on := 13, ground := Ground.phase }, { on := 14, ground := Ground.phase }, { on := 15, ground := Ground.phase }], guard := none }) (v := ?v20) rfl (by kernel_rfl) (by kernel_rfl) (by kernel_rfl) (fun _ _ _ h => h) (Or.inl ⟨by rfl, ?y20⟩) (by assumption) ?_
          case y20 => (intro w hSw; (try dsimp only at hSw); go_simp; try with_reducible rfl)
          simp only [Act.put, List.setIfInBounds_toArray, List.set_cons_zero, List.set_cons_succ]
          refine wpAnyH_ready (rs := [18]) (by kernel_rfl) (by simp) ?_
          refine AllReadyH.cons (o := { dst := none, op := Op.store 22 (Operand.tmp 48) (Operand.tmp 46), type := 0, pos := "heap.go:57", after := #[{ on := 17, ground := Ground.data }, { on := 15, ground := Ground.data }, { on := 15, ground := Ground.chain }, { on := 0, ground := Ground.phase }, { on := 1, ground := Ground.phase }, { on := 2, ground := Ground.phase }, { on := 3, ground := Ground.phase }, { on := 4, ground := Ground.phase }, { on := 5, ground := Ground.phase }, { on := 6, ground := Ground.phase }, { on := 7, ground := Ground.phase }, { on := 8, ground := Ground.phase }, { on := 9, ground := Ground.phase }, { on := 10, ground := Ground.phase }, { on := 11, ground := Ground.phase }, { on := 12, ground := Ground.phase }, { on := 13, ground := Ground.phase }, { on := 14, ground := Ground.phase }, { on := 15, ground := Ground.phase }], guard := none }) rfl (fun K hK => ?_) AllReadyH.nil
          go_simp
          refine hK.out _ _ (hcur7.setCell (Nat.le_refl _) _) (fun hHeld => ?_)
          clear hK K
          try simp only [Act.put, List.setIfInBounds_toArray, List.set_cons_zero, List.set_cons_succ]
          refine wpAnyH_done (by kernel_rfl) ?_ _
          have hw := set_block (v := .slice (some ⟨gg, 0, none⟩) 1 cap') hn7
          have kW := cell_of_block (j := 0) hw rfl
          have hzb := HZB.out
          rw [World.size_alloc] at hzb
          have hg7 := own_head HO7.out
          clear k7 f7 hn7
          go_wp2
          go_ret2
          exact ⟨rfl, ⟨gg, cap', w3.heap.size, w2.heap.size + 1, cur, hw, (World.cell?_of_block (Below.heap_setCell _ _ _ _ (by show gg ≠ b; omega))).trans hg7, (Below.heap_setCell _ _ _ _ (by show w3.heap.size ≠ b; omega)).trans HOB.out, (Below.heap_setCell _ _ _ _ (by show w2.heap.size + 1 ≠ b; omega)).trans hzb, HZ.out, HSZ.out⟩, hcur7.setCell (Nat.le_refl _) _⟩
        · skip
          go_simp
          refine hK.out _ _ (hcur3.alloc (Nat.le_of_lt hbl3) _) (fun hHeld => ?_)
          clear hK K
          try simp only [Act.put, List.setIfInBounds_toArray, List.set_cons_zero, List.set_cons_succ]
          refine wpAnyH_ready (rs := [4, 14]) (by kernel_rfl) (by simp) ?_
          refine AllReadyH.cons (o := { dst := some 35, op := Op.load 22 (Operand.tmp 34), type := 22, pos := "heap.go:57", after := #[{ on := 3, ground := Ground.data }], guard := none }) rfl (fun K hK => ?_) (AllReadyH.cons (o := { dst := some 45, op := Op.buildSlice 22 1 #[(0, Operand.tmp 44)], type := 22, pos := "heap.go:57", after := #[{ on := 13, ground := Ground.data }], guard := none }) rfl (fun K hK => ?_) AllReadyH.nil)
          · skip
            go_simp
            refine hK.out _ _ (by assumption) (fun hHeld => ?_)
            clear hK K
            try simp only [Act.put, List.setIfInBounds_toArray, List.set_cons_zero, List.set_cons_succ]
            refine wpAnyH_ready (rs := [14]) (by kernel_rfl) (by simp) ?_
            refine AllReadyH.cons (o := { dst := some 45, op := Op.buildSlice 22 1 #[(0, Operand.tmp 44)], type := 22, pos := "heap.go:57", after := #[{ on := 13, ground := Ground.data }], guard := none }) rfl (fun K hK => ?_) AllReadyH.nil
            go_simp
            refine hK.out _ _ ((hcur3.alloc (Nat.le_of_lt hbl3) _).alloc (by rw [World.size_alloc]; omega) _) (fun hHeld => ?_)
            clear hK K
            try simp only [Act.put, List.setIfInBounds_toArray, List.set_cons_zero, List.set_cons_succ]
            refine wpAnyH_ready (rs := [15]) (by kernel_rfl) (by simp) ?_
            refine AllReadyH.cons (o := { dst := some 46, op := Op.call { callee := Callee.builtin Builtin.append, args := #[Operand.tmp 35, Operand.tmp 45], argTypes := #[22, 22] }, type := 22, pos := "heap.go:57", after := #[{ on := 4, ground := Ground.data }, { on := 14, ground := Ground.data }, { on := 11, ground := Ground.chain }], guard := none }) rfl (fun K hK => ?_) AllReadyH.nil
            (refine step_append_lies _ (by rfl) _ _ _ (by rfl) w3.heap.size 43 q _ 1 8 Try.underlying22 hq hq0 hq1 hq2 rfl (by omega) (.slice none 0 0) 0 [] (by rfl) (World.ownsRow_nil _ _ _ _) ⟨w3.heap.size + 1, 0, none⟩ 1 1 [.pointer (some ⟨w3.heap.size, 0, none⟩)] (by rfl) (by rfl) (fun j u hj => news_one hj) (by simp [Value.oneCell']) (by omega) (by unfold maxLen; omega) (by omega) (by simp; omega) (w3.heap.size + 1 + 1) (by simp) ?_; intro gg cap' w7 hown7 hgrow7 hat7 hlt7; have hcur7 := ((hcur3.alloc (Nat.le_of_lt hbl3) _).alloc (by rw [World.size_alloc]; omega) _).grown hgrow7 (by simp; omega) (fun q hq => by cases hq); have hn7 := (hgrow7.block b (by simp; omega) (fun e => by cases e)).trans ((Below.heap_alloc _ _ b (by rw [World.size_alloc]; omega)).trans ((Below.heap_alloc _ _ b hbl3).trans hn3)); have k7 := cell_of_block (j := 0) hn7 rfl; have f7 := frozen_of_block (j := 0) hn7; have ho7 := (hgrow7.block w3.heap.size (by simp; omega) (fun e => by cases e)).trans ((Below.heap_alloc _ _ w3.heap.size (by rw [World.size_alloc]; omega)).trans (heap_alloc_new w3 _)); have hz7 := (hgrow7.block _ (by have := (Array.getElem?_eq_some_iff.1 HCUR.out).1; simp at this ⊢; omega) (fun e => by cases e)).trans ((Below.heap_alloc _ _ _ (by have := (Array.getElem?_eq_some_iff.1 HCUR.out).1; simp at this ⊢; omega)).trans ((Below.heap_alloc _ _ _ (Array.getElem?_eq_some_iff.1 HCUR.out).1).trans HCUR.out)); have HO7 := Lib.hid hown7; have HOB := Lib.hid ho7; have HZB := Lib.hid hz7; have hgb := hown7.lt gg rfl; clear hown7 hgrow7 hat7 hlt7 ho7 hz7)
            refine hK.out _ _ hcur7 (fun hHeld => ?_)
            clear hK K
            try simp only [Act.put, List.setIfInBounds_toArray, List.set_cons_zero, List.set_cons_succ]
            refine wpAnyH_take (i := 16) (oi := { dst := some 47, op := Op.nilCheck (Operand.tmp 31), type := 0, pos := "heap.go:57", after := #[{ on := 0, ground := Ground.data }, { on := 0, ground := Ground.phase }, { on := 1, ground := Ground.phase }, { on := 2, ground := Ground.phase }, { on := 3, ground := Ground.phase }, { on := 4, ground := Ground.phase }, { on := 5, ground := Ground.phase }, { on := 6, ground := Ground.phase }, { on := 7, ground := Ground.phase }, { on := 8, ground := Ground.phase }, { on := 9, ground := Ground.phase }, { on := 10, ground := Ground.phase }, { on := 11, ground := Ground.phase }, { on := 12, ground := Ground.phase }, { on := 13, ground := Ground.phase }, { on := 14, ground := Ground.phase }, { on := 15, ground := Ground.phase }], guard := none }) (v := ?v21) rfl (by kernel_rfl) (by kernel_rfl) (by kernel_rfl) (fun _ _ _ h => h) (Or.inl ⟨by rfl, ?y21⟩) (by assumption) ?_
            case y21 => (intro w hSw; (try dsimp only at hSw); go_simp; try with_reducible rfl)
            simp only [Act.put, List.setIfInBounds_toArray, List.set_cons_zero, List.set_cons_succ]
            refine wpAnyH_take (i := 17) (oi := { dst := some 48, op := Op.fieldAddr 24 (Operand.tmp 47) 0, type := 0, pos := "heap.go:57", after := #[{ on := 16, ground := Ground.data }, { on := 0, ground := Ground.phase }, { on := 1, ground := Ground.phase }, { on := 2, ground := Ground.phase }, { on := 3, ground := Ground.phase }, { on := 4, ground := Ground.phase }, { on := 5, ground := Ground.phase }, { on := 6, ground := Ground.phase }, { on := 7, ground := Ground.phase }, { on := 8, ground := Ground.phase }, { on := 9, ground := Ground.phase }, { on := 10, ground := Ground.phase }, { on := 11, ground := Ground.phase }, { on := 12, ground := Ground.phase }, { on := 13, ground := Ground.phase }, { on := 14, ground := Ground.phase }, { on := 15, ground := Ground.phase }], guard := none }) (v := ?v22) rfl (by kernel_rfl) (by kernel_rfl) (by kernel_rfl) (fun _ _ _ h => h) (Or.inl ⟨by rfl, ?y22⟩) (by assumption) ?_
            case y22 => (intro w hSw; (try dsimp only at hSw); go_simp; try with_reducible rfl)
            simp only [Act.put, List.setIfInBounds_toArray, List.set_cons_zero, List.set_cons_succ]
            refine wpAnyH_ready (rs := [18]) (by kernel_rfl) (by simp) ?_
            refine AllReadyH.cons (o := { dst := none, op := Op.store 22 (Operand.tmp 48) (Operand.tmp 46), type := 0, pos := "heap.go:57", after := #[{ on := 17, ground := Ground.data }, { on := 15, ground := Ground.data }, { on := 15, ground := Ground.chain }, { on := 0, ground := Ground.phase }, { on := 1, ground := Ground.phase }, { on := 2, ground := Ground.phase }, { on := 3, ground := Ground.phase }, { on := 4, ground := Ground.phase }, { on := 5, ground := Ground.phase }, { on := 6, ground := Ground.phase }, { on := 7, ground := Ground.phase }, { on := 8, ground := Ground.phase }, { on := 9, ground := Ground.phase }, { on := 10, ground := Ground.phase }, { on := 11, ground := Ground.phase }, { on := 12, ground := Ground.phase }, { on := 13, ground := Ground.phase }, { on := 14, ground := Ground.phase }, { on := 15, ground := Ground.phase }], guard := none }) rfl (fun K hK => ?_) AllReadyH.nil
            go_simp
            refine hK.out _ _ (hcur7.setCell (Nat.le_refl _) _) (fun hHeld => ?_)
            clear hK K
            try simp only [Act.put, List.setIfInBounds_toArray, List.set_cons_zero, List.set_cons_succ]
            refine wpAnyH_done (by kernel_rfl) ?_ _
            have hw := set_block (v := .slice (some ⟨gg, 0, none⟩) 1 cap') hn7
            have kW := cell_of_block (j := 0) hw rfl
            have hzb := HZB.out
            rw [World.size_alloc] at hzb
            have hg7 := own_head HO7.out
            clear k7 f7 hn7
            go_wp2
            go_ret2
            exact ⟨rfl, ⟨gg, cap', w3.heap.size, w2.heap.size + 1, cur, hw, (World.cell?_of_block (Below.heap_setCell _ _ _ _ (by show gg ≠ b; omega))).trans hg7, (Below.heap_setCell _ _ _ _ (by show w3.heap.size ≠ b; omega)).trans HOB.out, (Below.heap_setCell _ _ _ _ (by show w2.heap.size + 1 ≠ b; omega)).trans hzb, HZ.out, HSZ.out⟩, hcur7.setCell (Nat.le_refl _) _⟩
          · skip
            go_simp
            refine hK.out _ _ ((hcur3.alloc (Nat.le_of_lt hbl3) _).alloc (by rw [World.size_alloc]; omega) _) (fun hHeld => ?_)
            clear hK K
            try simp only [Act.put, List.setIfInBounds_toArray, List.set_cons_zero, List.set_cons_succ]
            refine wpAnyH_ready (rs := [4]) (by kernel_rfl) (by simp) ?_
            refine AllReadyH.cons (o := { dst := some 35, op := Op.load 22 (Operand.tmp 34), type := 22, pos := "heap.go:57", after := #[{ on := 3, ground := Ground.data }], guard := none }) rfl (fun K hK => ?_) AllReadyH.nil
            go_simp
            refine hK.out _ _ (by assumption) (fun hHeld => ?_)
            clear hK K
            try simp only [Act.put, List.setIfInBounds_toArray, List.set_cons_zero, List.set_cons_succ]
            refine wpAnyH_ready (rs := [15]) (by kernel_rfl) (by simp) ?_
            refine AllReadyH.cons (o := { dst := some 46, op := Op.call { callee := Callee.builtin Builtin.append, args := #[Operand.tmp 35, Operand.tmp 45], argTypes := #[22, 22] }, type := 22, pos := "heap.go:57", after := #[{ on := 4, ground := Ground.data }, { on := 14, ground := Ground.data }, { on := 11, ground := Ground.chain }], guard := none }) rfl (fun K hK => ?_) AllReadyH.nil
            (refine step_append_lies _ (by rfl) _ _ _ (by rfl) w3.heap.size 43 q _ 1 8 Try.underlying22 hq hq0 hq1 hq2 rfl (by omega) (.slice none 0 0) 0 [] (by rfl) (World.ownsRow_nil _ _ _ _) ⟨w3.heap.size + 1, 0, none⟩ 1 1 [.pointer (some ⟨w3.heap.size, 0, none⟩)] (by rfl) (by rfl) (fun j u hj => news_one hj) (by simp [Value.oneCell']) (by omega) (by unfold maxLen; omega) (by omega) (by simp; omega) (w3.heap.size + 1 + 1) (by simp) ?_; intro gg cap' w7 hown7 hgrow7 hat7 hlt7; have hcur7 := ((hcur3.alloc (Nat.le_of_lt hbl3) _).alloc (by rw [World.size_alloc]; omega) _).grown hgrow7 (by simp; omega) (fun q hq => by cases hq); have hn7 := (hgrow7.block b (by simp; omega) (fun e => by cases e)).trans ((Below.heap_alloc _ _ b (by rw [World.size_alloc]; omega)).trans ((Below.heap_alloc _ _ b hbl3).trans hn3)); have k7 := cell_of_block (j := 0) hn7 rfl; have f7 := frozen_of_block (j := 0) hn7; have ho7 := (hgrow7.block w3.heap.size (by simp; omega) (fun e => by cases e)).trans ((Below.heap_alloc _ _ w3.heap.size (by rw [World.size_alloc]; omega)).trans (heap_alloc_new w3 _)); have hz7 := (hgrow7.block _ (by have := (Array.getElem?_eq_some_iff.1 HCUR.out).1; simp at this ⊢; omega) (fun e => by cases e)).trans ((Below.heap_alloc _ _ _ (by have := (Array.getElem?_eq_some_iff.1 HCUR.out).1; simp at this ⊢; omega)).trans ((Below.heap_alloc _ _ _ (Array.getElem?_eq_some_iff.1 HCUR.out).1).trans HCUR.out)); have HO7 := Lib.hid hown7; have HOB := Lib.hid ho7; have HZB := Lib.hid hz7; have hgb := hown7.lt gg rfl; clear hown7 hgrow7 hat7 hlt7 ho7 hz7)
            refine hK.out _ _ hcur7 (fun hHeld => ?_)
            clear hK K
            try simp only [Act.put, List.setIfInBounds_toArray, List.set_cons_zero, List.set_cons_succ]
            refine wpAnyH_take (i := 16) (oi := { dst := some 47, op := Op.nilCheck (Operand.tmp 31), type := 0, pos := "heap.go:57", after := #[{ on := 0, ground := Ground.data }, { on := 0, ground := Ground.phase }, { on := 1, ground := Ground.phase }, { on := 2, ground := Ground.phase }, { on := 3, ground := Ground.phase }, { on := 4, ground := Ground.phase }, { on := 5, ground := Ground.phase }, { on := 6, ground := Ground.phase }, { on := 7, ground := Ground.phase }, { on := 8, ground := Ground.phase }, { on := 9, ground := Ground.phase }, { on := 10, ground := Ground.phase }, { on := 11, ground := Ground.phase }, { on := 12, ground := Ground.phase }, { on := 13, ground := Ground.phase }, { on := 14, ground := Ground.phase }, { on := 15, ground := Ground.phase }], guard := none }) (v := ?v23) rfl (by kernel_rfl) (by kernel_rfl) (by kernel_rfl) (fun _ _ _ h => h) (Or.inl ⟨by rfl, ?y23⟩) (by assumption) ?_
            case y23 => (intro w hSw; (try dsimp only at hSw); go_simp; try with_reducible rfl)
            simp only [Act.put, List.setIfInBounds_toArray, List.set_cons_zero, List.set_cons_succ]
            refine wpAnyH_take (i := 17) (oi := { dst := some 48, op := Op.fieldAddr 24 (Operand.tmp 47) 0, type := 0, pos := "heap.go:57", after := #[{ on := 16, ground := Ground.data }, { on := 0, ground := Ground.phase }, { on := 1, ground := Ground.phase }, { on := 2, ground := Ground.phase }, { on := 3, ground := Ground.phase }, { on := 4, ground := Ground.phase }, { on := 5, ground := Ground.phase }, { on := 6, ground := Ground.phase }, { on := 7, ground := Ground.phase }, { on := 8, ground := Ground.phase }, { on := 9, ground := Ground.phase }, { on := 10, ground := Ground.phase }, { on := 11, ground := Ground.phase }, { on := 12, ground := Ground.phase }, { on := 13, ground := Ground.phase }, { on := 14, ground := Ground.phase }, { on := 15, ground := Ground.phase }], guard := none }) (v := ?v24) rfl (by kernel_rfl) (by kernel_rfl) (by kernel_rfl) (fun _ _ _ h => h) (Or.inl ⟨by rfl, ?y24⟩) (by assumption) ?_
            case y24 => (intro w hSw; (try dsimp only at hSw); go_simp; try with_reducible rfl)
            simp only [Act.put, List.setIfInBounds_toArray, List.set_cons_zero, List.set_cons_succ]
            refine wpAnyH_ready (rs := [18]) (by kernel_rfl) (by simp) ?_
            refine AllReadyH.cons (o := { dst := none, op := Op.store 22 (Operand.tmp 48) (Operand.tmp 46), type := 0, pos := "heap.go:57", after := #[{ on := 17, ground := Ground.data }, { on := 15, ground := Ground.data }, { on := 15, ground := Ground.chain }, { on := 0, ground := Ground.phase }, { on := 1, ground := Ground.phase }, { on := 2, ground := Ground.phase }, { on := 3, ground := Ground.phase }, { on := 4, ground := Ground.phase }, { on := 5, ground := Ground.phase }, { on := 6, ground := Ground.phase }, { on := 7, ground := Ground.phase }, { on := 8, ground := Ground.phase }, { on := 9, ground := Ground.phase }, { on := 10, ground := Ground.phase }, { on := 11, ground := Ground.phase }, { on := 12, ground := Ground.phase }, { on := 13, ground := Ground.phase }, { on := 14, ground := Ground.phase }, { on := 15, ground := Ground.phase }], guard := none }) rfl (fun K hK => ?_) AllReadyH.nil
            go_simp
            refine hK.out _ _ (hcur7.setCell (Nat.le_refl _) _) (fun hHeld => ?_)
            clear hK K
            try simp only [Act.put, List.setIfInBounds_toArray, List.set_cons_zero, List.set_cons_succ]
            refine wpAnyH_done (by kernel_rfl) ?_ _
            have hw := set_block (v := .slice (some ⟨gg, 0, none⟩) 1 cap') hn7
            have kW := cell_of_block (j := 0) hw rfl
            have hzb := HZB.out
            rw [World.size_alloc] at hzb
            have hg7 := own_head HO7.out
            clear k7 f7 hn7
            go_wp2
            go_ret2
            exact ⟨rfl, ⟨gg, cap', w3.heap.size, w2.heap.size + 1, cur, hw, (World.cell?_of_block (Below.heap_setCell _ _ _ _ (by show gg ≠ b; omega))).trans hg7, (Below.heap_setCell _ _ _ _ (by show w3.heap.size ≠ b; omega)).trans HOB.out, (Below.heap_setCell _ _ _ _ (by show w2.heap.size + 1 ≠ b; omega)).trans hzb, HZ.out, HSZ.out⟩, hcur7.setCell (Nat.le_refl _) _⟩
end Go.Proofs.Ytfehgbmlbkmaoaa
