import Derived.Test.YtljfknneijmfoaaOrd
namespace Go.Proofs.Ytljfknneijmfoaa
open Go.RowKit Go.Maps Go.WideMaps Go.Lib Go.Sort
open Go.Proofs.YtljfknneijmfoaaW.PrintWords (q_of_own q_slice q_cells add_at)

theorem cut_at {l : List S} {i : Nat} {x : S} (h : SS l) (hx : l[i]? = some x) : l.take i ++ l.drop (i + 1) = l.filter fun y => !(y == x) := by
  induction l generalizing i with
  | nil => simp at hx
  | cons a r ih =>
    obtain ⟨h1, h2⟩ := List.pairwise_cons.1 h
    cases i with
    | zero =>
      simp at hx
      subst hx
      simp only [List.take_zero, List.nil_append, Nat.zero_add, List.drop_succ_cons, List.drop_zero, List.filter_cons, beq_self_eq_true, Bool.not_true, Bool.false_eq_true, if_false]
      refine (List.filter_eq_self.2 fun y hy => ?_).symm
      have hlt := h1 y hy
      have hne : y ≠ a := fun e => by rw [e] at hlt; exact Std.lt_irrefl hlt
      simpa using hne
    | succ i =>
      have hx' : r[i]? = some x := by simpa using hx
      have hlt := h1 x (List.mem_of_getElem? hx')
      have hne : a ≠ x := fun e => by rw [e] at hlt; exact Std.lt_irrefl hlt
      rw [List.take_succ_cons, List.drop_succ_cons, List.cons_append, ih h2 hx', List.filter_cons, if_pos (by simpa using hne)]

theorem cut_ss {l : List S} {i : Nat} (h : SS l) : SS (l.take i ++ l.drop (i + 1)) := by
  rw [← List.eraseIdx_eq_take_drop_succ]
  exact h.sublist (List.eraseIdx_sublist l i)

/-- What stands next. -/
theorem ord_step {E : Es} {left : List S} {r : Int} (hS : SS left) (hne : left ≠ []) (hF : FirstAt (fun s => !(left.any (hind E s))) left r) :
    ∃ (i : Nat) (x : S), r = i ∧ i < left.length ∧ left[i]? = some x ∧ ∀ rest, Ord E (left.take i ++ left.drop (i + 1)) rest → Ord E left (x :: rest) := by
  have hfree : ∀ s, (!(left.any (hind E s))) = true ↔ Free E left s := fun s => by rw [Bool.not_eq_true', free_iff]
  rcases hF with ⟨i, x, hx, rfl, hp, hl⟩ | ⟨_, hn⟩
  · have hi := (List.getElem?_eq_some_iff.1 hx).1
    refine ⟨i, x, rfl, hi, hx, fun rest ho => ?_⟩
    rw [cut_at hS hx] at ho
    refine .cons (List.mem_of_getElem? hx) ((hfree x).1 hp) (fun u hu hf => ?_) ho
    obtain ⟨j, hj, rfl⟩ := List.mem_iff_getElem.1 hu
    by_cases hji : j < i
    · have := hl j _ hji (List.getElem?_eq_getElem hj)
      have h2 := (hfree _).2 hf
      simp only at this
      rw [h2] at this
      cases this
    · have e := (List.getElem?_eq_some_iff.1 hx).2
      rcases Nat.lt_or_ge i j with h | h
      · exact Std.le_of_lt (by rw [← e]; exact List.pairwise_iff_getElem.1 hS i j hi hj h)
      · have : i = j := by omega
        subst this
        rw [e]
        exact Std.le_refl x
  · obtain ⟨s, hs, hf⟩ := exists_free E left hne
    have := hn s hs
    have h2 := (hfree s).2 hf
    simp only at this
    rw [h2] at this
    cases this

/-- Where they lie that are left. -/
def LeftRow (w : World) (base : Nat) (A : Option Addr) (left : List S) (cap : Nat) : Prop :=
  left.length ≤ cap ∧ cap ≤ 9223372036854775807 ∧ (left = [] ∨ ∃ blk, A = some ⟨blk, 0, none⟩ ∧ base ≤ blk ∧ blk < w.heap.size ∧ Holds encStr w blk 0 left.toArray)

theorem LeftRow.row {w : World} {base : Nat} {A : Option Addr} {left : List S} {cap : Nat} (h : LeftRow w base A left cap) : StrRow w A left := by
  intro k x hx
  rcases h.2.2 with rfl | ⟨blk, rfl, _, _, hH⟩
  · simp at hx
  · have hk := (List.getElem?_eq_some_iff.1 hx).1
    refine ⟨_, rfl, ?_⟩
    have h1 := (hH k (by simpa using hk)).1
    have e : left.toArray[k]! = x := by
      rw [getElem!_pos left.toArray k (by simpa using hk)]
      simpa using (List.getElem?_eq_some_iff.1 hx).2
    rw [e, enc_U] at h1
    rw [add_at]
    exact h1

theorem LeftRow.kept {w w' : World} {base : Nat} {A : Option Addr} {left : List S} {cap : Nat} (h : LeftRow w base A left cap) (hs : w.heap.size ≤ w'.heap.size) (hk : ∀ b, A = some ⟨b, 0, none⟩ → b < w.heap.size → w'.heap[b]? = w.heap[b]?) : LeftRow w' base A left cap := by
  refine ⟨h.1, h.2.1, h.2.2.imp id ?_⟩
  rintro ⟨blk, rfl, h1, h2, h3⟩
  refine ⟨blk, rfl, h1, by omega, fun j hj => ?_⟩
  have e := hk blk rfl h2
  obtain ⟨c1, c2⟩ := h3 j hj
  exact ⟨(World.cell?_of_block e).trans c1, (World.frozen?_of_block e).trans c2⟩

theorem left_of_own {w : World} {base : Nat} {A : Option Addr} {c : Nat} {xs : List S} (h : w.ownsRow base 9 1 (.slice A xs.length c) xs.length (xs.map encStr)) : LeftRow w base A xs c := by
  rcases h.2 with ⟨he, h0⟩ | ⟨g, cap, cur, he, hg, hh, hnc, hm, hcs, ht⟩
  · have : xs = [] := List.length_eq_zero_iff.1 h0
    subst this
    injection he with _ _ hc
    subst hc
    exact ⟨Nat.le_refl _, by omega, .inl rfl⟩
  · injection he with ha _ hc
    subst ha hc
    refine ⟨hnc, by unfold maxLen at hm; omega, .inr ⟨g, rfl, hg, (Array.getElem?_eq_some_iff.1 hh).1, fun j hj => ?_⟩⟩
    have hj' : j < xs.length := by simpa using hj
    rw [Nat.zero_add]
    refine ⟨cell_of_block hh ?_, frozen_of_block hh⟩
    have h1 : (xs.map encStr)[j]? = some (encStr xs.toArray[j]!) := by
      rw [List.getElem?_map, List.getElem?_eq_getElem hj', getElem!_pos xs.toArray j hj]
      simp
    rw [← ht, List.getElem?_take_of_lt (by omega)] at h1
    simpa using h1

/-- slices.Clone of a row of one's own. -/
theorem clone72 {w : World} {base : Nat} {v : Value} {xs : List S} (h : w.ownsRow base 9 1 v xs.length (xs.map encStr)) (hn : xs.length ≤ 1000000) :
    Calls Try.prog 72 #[v] w fun e w' => ∃ A c, e = .returned (.slice A xs.length c) ∧ LeftRow w' w.heap.size A xs c ∧ Below w.heap.size w w' := by
  rcases h.2 with ⟨he, h0⟩ | ⟨g, cap, cur, he, hg, hh, hnc, hm, hcs, ht⟩
  · have : xs = [] := List.length_eq_zero_iff.1 h0
    subst this
    subst he
    refine (Try.slices_Clone_string_nil 0 0 w).mono ?_
    rintro e w' ⟨rfl, rfl⟩
    exact ⟨none, 0, rfl, ⟨Nat.le_refl _, by omega, .inl rfl⟩, Below.refl _ _⟩
  · subst he
    by_cases h0 : xs.length = 0
    · have : xs = [] := List.length_eq_zero_iff.1 h0
      subst this
      refine (Try.slices_Clone_string_zero ⟨g, 0, none⟩ cap w).mono ?_
      rintro e w' ⟨v', rfl, ho, _, hB⟩
      obtain ⟨A, c, rfl⟩ := own_form ho
      exact ⟨A, c, rfl, left_of_own (xs := []) ho, hB⟩
    · refine (Try.slices_Clone_string g 0 xs.length cap (xs.map U) w (by simp) (by omega) fun j hj => ?_).mono ?_
      · have hj' : j < xs.length := by simpa using hj
        have hl := (left_of_own (c := cap) (A := some ⟨g, 0, none⟩) h).row j xs[j] (List.getElem?_eq_getElem hj')
        obtain ⟨_, e, hc⟩ := hl
        cases e
        rw [add_at] at hc
        simpa [List.getD_eq_getElem?_getD, List.getElem?_eq_getElem hj'] using hc
      · rintro e w' ⟨v', rfl, ho, _, hB⟩
        have hm2 : ((xs.map U).take xs.length).map Value.string = xs.map encStr := by
          rw [show (xs.map U).take xs.length = xs.map U from List.take_of_length_le (by simp), List.map_map]
          rfl
        rw [hm2] at ho
        obtain ⟨A, c, rfl⟩ := own_form ho
        exact ⟨A, c, rfl, left_of_own ho, hB⟩

/-- slices.Delete of one. -/
theorem delete77 {w : World} {base cap i : Nat} {A : Option Addr} {left : List S} (h : LeftRow w base A left cap) (hi : i < left.length) :
    Calls Try.prog 77 #[.slice A left.length cap, .int .i64 i, .int .i64 ((i : Int) + 1)] w fun e w' => ∃ l', l' = left.take i ++ left.drop (i + 1) ∧ e = .returned (.slice A l'.length cap) ∧ LeftRow w' base A l' cap ∧
      w'.heap.size = w.heap.size ∧ Below base w w' ∧ ∀ j, A ≠ some ⟨j, 0, none⟩ → w'.heap[j]? = w.heap[j]? := by
  obtain ⟨hc, hm, h0 | ⟨blk, rfl, hb, hs, hH⟩⟩ := h
  · rw [h0] at hi
    simp at hi
  · have hlen : (left.take i ++ left.drop (i + 1)).length = left.length - (i + 1 - i) := by
      rw [List.length_append, List.length_take, List.length_drop]
      omega
    have hl1 : (left.take i ++ left.drop (i + 1)).length = left.length - 1 := by rw [hlen]; omega
    have hd := Try.slices_Delete_string blk 0 cap i (i + 1) left w hH hc hm (by omega) (by omega)
    refine hd.mono ?_
    rintro e w' ⟨rfl, q, rfl⟩
    have hsz : (left.take i ++ left.drop (i + 1) ++ List.replicate (i + 1 - i) []).toArray.size = left.toArray.size := by
      rw [List.size_toArray, List.size_toArray, List.length_append, hlen, List.length_replicate]
      omega
    have hHa : Holds encStr (Sort.ahead w q) blk 0 left.toArray := hH
    have hH2 := holds_putRow encStr (Sort.ahead w q) blk 0 left.toArray _ hHa hsz
    have hzz : (putRow encStr (Sort.ahead w q) blk 0 (left.take i ++ left.drop (i + 1) ++ List.replicate (i + 1 - i) []).toArray).heap.size = w.heap.size := by rw [size_putRow]; rfl
    have hoth : ∀ j, j ≠ blk → (putRow encStr (Sort.ahead w q) blk 0 (left.take i ++ left.drop (i + 1) ++ List.replicate (i + 1 - i) []).toArray).heap[j]? = w.heap[j]? := fun j hj => by
      show (w.heap.modify blk _)[j]? = _
      rw [Array.getElem?_modify, if_neg (fun e => hj e.symm)]
    refine ⟨_, rfl, by rw [hlen], ⟨by omega, hm, .inr ⟨blk, rfl, hb, by omega, fun j hj => ?_⟩⟩, hzz, ?_, fun j hj => ?_⟩
    · have hj' : j < (left.take i ++ left.drop (i + 1)).length := by simpa using hj
      have h2 := hH2 j (by rw [List.size_toArray, List.length_append]; omega)
      have e : (left.take i ++ left.drop (i + 1) ++ List.replicate (i + 1 - i) []).toArray[j]! = (left.take i ++ left.drop (i + 1)).toArray[j]! := by
        rw [getElem!_pos _ j (by rw [List.size_toArray, List.length_append]; omega), getElem!_pos _ j (by simpa using hj')]
        rw [List.getElem_toArray, List.getElem_toArray, List.getElem_append_left hj']
      rw [e] at h2
      exact h2
    · refine ⟨rfl, rfl, rfl, by rw [hzz]; exact Nat.le_refl _, fun j hj => hoth j ?_⟩
      omega
    · exact hoth j (fun e => hj (by rw [e]))
end Go.Proofs.Ytljfknneijmfoaa
