import Derived.Test.YtljfknneijmfoaaSorts
import Derived.Test.YtljfknneijmfoaaNet
namespace Go.Proofs.Ytljfknneijmfoaa
open Go.RowKit Go.Maps Go.WideMaps Go.Sort Go.Lib

/-- Strictly ascending. -/
def Asc (l : List Int) : Prop := l.Pairwise (· < ·)

abbrev eI : Int → Value := Value.int .i64

/-- slices.Sort of ints that the call owns. -/
theorem sort81 {w : World} {base : Nat} {v : Value} {zs : List Int} (h : w.ownsRow base 3 1 v zs.length (zs.map eI)) (hn : zs.length ≤ 1000000) :
    Calls Try.prog 81 #[v] w fun e w' => e = .returned (.tuple #[]) ∧ w'.ownsRow base 3 1 v zs.length ((zs.mergeSort fun x y => decide (x ≤ y)).map eI) ∧ Below base w w' := by
  by_cases hv : v = .slice none 0 0
  · subst hv
    have h0 : zs = [] := by
      rcases h.2 with ⟨_, h0⟩ | ⟨g, cap, cur, e0, _⟩
      · exact List.length_eq_zero_iff.1 h0
      · cases e0
    subst h0
    refine (Try.slices_Sort_int_none none 0 w).mono ?_
    rintro e w' ⟨rfl, rfl⟩
    exact ⟨rfl, by simpa using h, Below.refl _ _⟩
  · obtain ⟨g, cap, rfl, hg, hlt, hcap, hmax, hl, hH⟩ := holds_of_ownsRow h hv
    refine (Try.slices_Sort_int g 0 cap zs w hH hlt (by omega)).mono ?_
    rintro e w' ⟨rfl, n, os, rfl⟩
    have h1 := ownsRow_putRow (q := n) (ys := zs.mergeSort fun x y => decide (x ≤ y)) h (List.length_mergeSort _) (Nat.le_refl _)
    rw [List.take_of_length_le (by rw [List.length_mergeSort]; exact Nat.le_refl _)] at h1
    refine ⟨rfl, own_block h1 fun k hk => heap_grow_old _ _ (h1.lt k hk).2, ?_⟩
    have hb := below_putRow (enc := eI) (q := n) (d := (zs.mergeSort fun x y => decide (x ≤ y)).toArray) (Below.refl base w) hg
    refine ⟨hb.os, hb.tape, hb.output, ?_, fun k hk => ?_⟩
    · have := hb.size
      simp at this ⊢
      try omega
    · rw [heap_grow_old _ _ (by simp; omega)]
      exact hb.block k hk

/-- slices.Compact of ints that the call owns: what comes back can be read. -/
theorem compact82 {w : World} {base : Nat} {v : Value} {zs : List Int} (h : w.ownsRow base 3 1 v zs.length (zs.map eI)) :
    Calls Try.prog 82 #[v] w fun e w' => ∃ v', e = .returned v' ∧ w'.ownsRow base 3 1 v' (Go.Lib.compact zs).length ((Go.Lib.compact zs).map eI) ∧ Below base w w' := by
  by_cases hv : v = .slice none 0 0
  · subst hv
    have h0 : zs = [] := by
      rcases h.2 with ⟨_, h0⟩ | ⟨g, cap, cur, e0, _⟩
      · exact List.length_eq_zero_iff.1 h0
      · cases e0
    subst h0
    refine (Try.slices_Compact_int_empty none 0 w).mono ?_
    rintro e w' ⟨rfl, rfl⟩
    exact ⟨_, rfl, by simpa [Go.Lib.compact, Go.Lib.compactUpTo] using h, Below.refl _ _⟩
  · obtain ⟨g, cap, rfl, hg, hlt, hcap, hmax, hl, hH⟩ := holds_of_ownsRow h hv
    refine (Try.slices_Compact_int g 0 cap zs w hH (by unfold maxLen at hmax; omega) hcap).mono ?_
    rintro e w' ⟨rfl, q, rfl⟩
    have hle : (Go.Lib.compact zs).length ≤ zs.length := by
      unfold Go.Lib.compact Go.Lib.compactUpTo
      rw [List.length_map]
      exact Nat.le_trans (List.length_filter_le _ _) (by simp)
    refine ⟨_, rfl, ?_, below_putRow (Below.refl base w) hg⟩
    have := ownsRow_putRow (q := q) (ys := Go.Lib.compact zs ++ List.replicate (zs.length - (Go.Lib.compact zs).length) 0) h (by simp; omega) hle
    rwa [List.take_left'] at this
    rfl

theorem icompact_step (d : Array Int) (hs : ∀ j, j + 1 < d.size → d[j]! ≤ d[j + 1]!) (m : Nat) (hm : m ≤ d.size) :
    Asc (Go.Lib.compactUpTo d m) ∧ (∀ x, x ∈ Go.Lib.compactUpTo d m ↔ ∃ j, j < m ∧ d[j]! = x) ∧ ∀ x, x ∈ Go.Lib.compactUpTo d m → 0 < m → x ≤ d[m - 1]! := by
  induction m with
  | zero =>
    refine ⟨List.Pairwise.nil, fun x => ⟨fun h => by simp [Go.Lib.compactUpTo] at h, fun ⟨j, hj, _⟩ => by omega⟩, fun x _ h => by omega⟩
  | succ m ih =>
    obtain ⟨i1, i2, i3⟩ := ih (by omega)
    rw [Go.Lib.compactUpTo_succ]
    have hle : 0 < m → d[m - 1]! ≤ d[m]! := fun h0 => by
      have := hs (m - 1) (by omega)
      rwa [show m - 1 + 1 = m by omega] at this
    have hall : ∀ x, x ∈ Go.Lib.compactUpTo d m → x ≤ d[m]! := fun x hx => by
      have h0 : 0 < m := by
        obtain ⟨j, hj, _⟩ := (i2 x).1 hx; omega
      exact Int.le_trans (i3 x hx h0) (hle h0)
    by_cases hk : Go.Lib.keeps d m = true
    · rw [if_pos hk]
      refine ⟨?_, fun x => ?_, fun x hx _ => ?_⟩
      · unfold Asc
        rw [List.pairwise_append]
        refine ⟨i1, by simp, fun a ha b hb => ?_⟩
        simp at hb
        subst hb
        have h0 : 0 < m := by obtain ⟨j, hj, _⟩ := (i2 a).1 ha; omega
        have hne : d[m]! ≠ d[m - 1]! := by
          intro e
          rw [Go.Lib.keeps_neg h0 e] at hk
          cases hk
        have h1 : a ≤ d[m - 1]! := i3 a ha h0
        have h2 := hle h0
        omega
      · rw [List.mem_append, i2]
        constructor
        · rintro (⟨j, hj, e⟩ | h)
          · exact ⟨j, by omega, e⟩
          · exact ⟨m, by omega, (List.mem_singleton.1 h).symm⟩
        · rintro ⟨j, hj, e⟩
          by_cases hjm : j = m
          · right; rw [← e, hjm]; simp
          · exact .inl ⟨j, by omega, e⟩
      · rw [Nat.add_sub_cancel]
        rcases List.mem_append.1 hx with h | h
        · exact hall x h
        · rw [List.mem_singleton.1 h]; exact Int.le_refl _
    · rw [if_neg hk, List.append_nil]
      have h0 : 0 < m := by
        apply Nat.pos_of_ne_zero
        rintro rfl
        exact hk (Go.Lib.keeps_lt_one d 0 (by omega))
      have he : d[m]! = d[m - 1]! := by
        apply Classical.byContradiction
        intro hne
        exact hk (Go.Lib.keeps_pos hne)
      refine ⟨i1, fun x => ?_, fun x hx _ => ?_⟩
      · rw [i2]
        constructor
        · rintro ⟨j, hj, e⟩; exact ⟨j, by omega, e⟩
        · rintro ⟨j, hj, e⟩
          by_cases hjm : j = m
          · exact ⟨m - 1, by omega, by rw [← he, ← hjm]; exact e⟩
          · exact ⟨j, by omega, e⟩
      · rw [Nat.add_sub_cancel]; exact hall x hx

/-- Sorted and compacted: the members, ascending, each once. -/
theorem icompact_sorted (xs : List Int) : Asc (Go.Lib.compact (xs.mergeSort fun x y => decide (x ≤ y))) ∧ ∀ x, x ∈ Go.Lib.compact (xs.mergeSort fun x y => decide (x ≤ y)) ↔ x ∈ xs := by
  have hp := List.pairwise_mergeSort (le := fun x y : Int => decide (x ≤ y)) (fun a b c h h' => by simp at *; omega) (fun a b => by simp; omega) xs
  have hm := (List.mergeSort_perm xs fun x y => decide (x ≤ y))
  generalize xs.mergeSort (fun x y => decide (x ≤ y)) = ys at hp hm
  have hs : ∀ j, j + 1 < ys.toArray.size → ys.toArray[j]! ≤ ys.toArray[j + 1]! := by
    intro j hj
    simp only [List.size_toArray] at hj
    rw [getElem!_pos ys.toArray j (by simp; omega), getElem!_pos ys.toArray (j + 1) (by simpa using hj)]
    have := (List.pairwise_iff_getElem.1 hp) j (j + 1) (by omega) hj (by omega)
    simpa using this
  obtain ⟨h1, h2, _⟩ := icompact_step ys.toArray hs ys.length (by simp)
  refine ⟨h1, fun x => ?_⟩
  unfold Go.Lib.compact
  rw [h2, ← hm.mem_iff]
  constructor
  · rintro ⟨j, hj, rfl⟩
    rw [getElem!_pos ys.toArray j (by simpa using hj)]
    simp
  · intro hx
    obtain ⟨j, hj, e⟩ := List.mem_iff_getElem.1 hx
    exact ⟨j, hj, by rw [getElem!_pos ys.toArray j (by simpa using hj)]; simpa using e⟩
end Go.Proofs.Ytljfknneijmfoaa
