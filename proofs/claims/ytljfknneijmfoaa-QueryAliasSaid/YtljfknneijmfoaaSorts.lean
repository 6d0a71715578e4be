import Derived.Test.YtljfknneijmfoaaLib
import Derived.Sort.OwnSorted
import Derived.Lib.OwnBridge
import Derived.Lib.SlicesCompact
namespace Go.Proofs.Ytljfknneijmfoaa
open Go.RowKit Go.Maps Go.WideMaps Go.Sort Go.Lib

/-- slices.Sort of what the call owns. -/
theorem sort86 {w : World} {base : Nat} {v : Value} {xs : List S} (h : w.ownsRow base 9 1 v xs.length (xs.map encStr)) (hn : xs.length ≤ 1000000) :
    Calls Try.prog 86 #[v] w fun e w' => e = .returned (.tuple #[]) ∧ w'.ownsRow base 9 1 v xs.length ((xs.mergeSort fun x y => decide (x ≤ y)).map encStr) ∧ w.grownBy w' v.ownBlock := by
  rcases h.2 with ⟨rfl, h0⟩ | ⟨g, cap, cur, rfl, hb, hg, hcap, hmax, hsz, ht⟩
  · have hx : xs = [] := List.length_eq_zero_iff.1 h0
    subst hx
    refine (Try.slices_Sort_string_none none 0 w).mono ?_
    rintro e w' ⟨rfl, rfl⟩
    exact ⟨rfl, by simpa using h, ⟨rfl, rfl, rfl, Nat.le_refl _, fun _ _ _ => rfl⟩⟩
  · have hlt : g < w.heap.size := (Array.getElem?_eq_some_iff.1 hg).1
    refine (Try.slices_Sort_string g 0 cap xs w (holds_of_block hg (by simpa using ht)) hlt (by omega)).mono ?_
    rintro e w' ⟨rfl, n, os, rfl⟩
    refine ⟨rfl, ownsRow_sorted (List.length_mergeSort _) hb hg hcap hmax hsz, grownBy_sorted _⟩

/-- slices.Compact of what the call owns. -/
theorem compact87 {w : World} {base : Nat} {v : Value} {xs : List S} (h : w.ownsRow base 9 1 v xs.length (xs.map encStr)) (hn : xs.length ≤ 1000000) :
    Calls Try.prog 87 #[v] w fun e w' => ∃ v', e = .returned v' ∧ w'.ownsRow base 9 1 v' (Go.Lib.compact xs).length ((Go.Lib.compact xs).map encStr) ∧ w.grownBy w' v.ownBlock ∧ v'.ownBlock = v.ownBlock := by
  rcases h.2 with ⟨rfl, h0⟩ | ⟨g, cap, cur, rfl, hb, hg, hcap, hmax, hsz, ht⟩
  · have hx : xs = [] := List.length_eq_zero_iff.1 h0
    subst hx
    refine (Try.slices_Compact_string_empty none 0 w).mono ?_
    rintro e w' ⟨rfl, rfl⟩
    exact ⟨_, rfl, by simpa [Go.Lib.compact, Go.Lib.compactUpTo] using h, ⟨rfl, rfl, rfl, Nat.le_refl _, fun _ _ _ => rfl⟩, rfl⟩
  · have hlt : g < w.heap.size := (Array.getElem?_eq_some_iff.1 hg).1
    refine (Try.slices_Compact_string g 0 cap xs w (holds_of_block hg (by simpa using ht)) (by omega) hcap).mono ?_
    rintro e w' ⟨rfl, q, rfl⟩
    have hle : (Go.Lib.compact xs).length ≤ xs.length := by
      unfold Go.Lib.compact Go.Lib.compactUpTo
      rw [List.length_map]
      exact Nat.le_trans (List.length_filter_le _ _) (by simp)
    refine ⟨_, rfl, ?_, ?_, rfl⟩
    · have := ownsRow_putRow (q := q) (ys := Go.Lib.compact xs ++ List.replicate (xs.length - (Go.Lib.compact xs).length) []) h (by simp; omega) hle
      rwa [List.take_left'] at this
      rfl
    · have := grownBy_sorted (w := w) (g := g) (n := q) (os := #[]) (Go.Lib.compact xs ++ List.replicate (xs.length - (Go.Lib.compact xs).length) []).toArray
      show w.grownBy _ (some g)
      simpa using this

theorem compact_step (d : Array S) (hs : ∀ j, j + 1 < d.size → d[j]! ≤ d[j + 1]!) (m : Nat) (hm : m ≤ d.size) :
    SS (Go.Lib.compactUpTo d m) ∧ (∀ x, x ∈ Go.Lib.compactUpTo d m ↔ ∃ j, j < m ∧ d[j]! = x) ∧ ∀ x, x ∈ Go.Lib.compactUpTo d m → 0 < m → x ≤ d[m - 1]! := by
  induction m with
  | zero =>
    refine ⟨List.Pairwise.nil, fun x => ⟨fun h => by simp [Go.Lib.compactUpTo] at h, fun ⟨j, hj, _⟩ => by omega⟩, fun x _ h => by omega⟩
  | succ m ih =>
    obtain ⟨i1, i2, i3⟩ := ih (by omega)
    rw [Go.Lib.compactUpTo_succ]
    have hle : 0 < m → d[m - 1]! ≤ d[m]! := fun h0 => by
      have := hs (m - 1) (by omega)
      rwa [show m - 1 + 1 = m by omega] at this
    have hall : ∀ x, x ∈ Go.Lib.compactUpTo d m → x ≤ d[m]! := fun x hx => by
      have h0 : 0 < m := by
        obtain ⟨j, hj, _⟩ := (i2 x).1 hx; omega
      exact Std.le_trans (i3 x hx h0) (hle h0)
    by_cases hk : Go.Lib.keeps d m = true
    · rw [if_pos hk]
      refine ⟨?_, fun x => ?_, fun x hx _ => ?_⟩
      · unfold SS
        rw [List.pairwise_append]
        refine ⟨i1, by simp, fun a ha b hb => ?_⟩
        simp at hb
        subst hb
        have h0 : 0 < m := by obtain ⟨j, hj, _⟩ := (i2 a).1 ha; omega
        have hne : d[m]! ≠ d[m - 1]! := by
          intro e
          rw [Go.Lib.keeps_neg h0 e] at hk
          cases hk
        have h1 : a ≤ d[m - 1]! := i3 a ha h0
        have h2 : d[m - 1]! < d[m]! := Std.lt_of_le_of_ne (hle h0) (Ne.symm hne)
        exact Std.lt_of_le_of_lt h1 h2
      · rw [List.mem_append, i2]
        constructor
        · rintro (⟨j, hj, e⟩ | h)
          · exact ⟨j, by omega, e⟩
          · exact ⟨m, by omega, (List.mem_singleton.1 h).symm⟩
        · rintro ⟨j, hj, e⟩
          by_cases hjm : j = m
          · right; rw [← e, hjm]; simp
          · exact .inl ⟨j, by omega, e⟩
      · rw [Nat.add_sub_cancel]
        rcases List.mem_append.1 hx with h | h
        · exact hall x h
        · rw [List.mem_singleton.1 h]; exact Std.le_refl _
    · rw [if_neg hk, List.append_nil]
      have h0 : 0 < m := by
        apply Nat.pos_of_ne_zero
        rintro rfl
        exact hk (Go.Lib.keeps_lt_one d 0 (by omega))
      have he : d[m]! = d[m - 1]! := by
        apply Classical.byContradiction
        intro hne
        exact hk (Go.Lib.keeps_pos hne)
      refine ⟨i1, fun x => ?_, fun x hx _ => ?_⟩
      · rw [i2]
        constructor
        · rintro ⟨j, hj, e⟩; exact ⟨j, by omega, e⟩
        · rintro ⟨j, hj, e⟩
          by_cases hjm : j = m
          · exact ⟨m - 1, by omega, by rw [← he, ← hjm]; exact e⟩
          · exact ⟨j, by omega, e⟩
      · rw [Nat.add_sub_cancel]; exact hall x hx

/-- Sorted and compacted: the members, ascending, each once. -/
theorem compact_sorted (xs : List S) : IsSrt xs (Go.Lib.compact (xs.mergeSort fun x y => decide (x ≤ y))) := by
  have hp := List.pairwise_mergeSort leS_trans leS_total xs
  have hm := (List.mergeSort_perm xs fun x y => decide (x ≤ y))
  generalize xs.mergeSort (fun x y => decide (x ≤ y)) = ys at hp hm
  have hs : ∀ j, j + 1 < ys.toArray.size → ys.toArray[j]! ≤ ys.toArray[j + 1]! := by
    intro j hj
    simp only [List.size_toArray] at hj
    rw [getElem!_pos ys.toArray j (by simp; omega), getElem!_pos ys.toArray (j + 1) (by simpa using hj)]
    have := (List.pairwise_iff_getElem.1 hp) j (j + 1) (by omega) hj (by omega)
    simpa using this
  obtain ⟨h1, h2, _⟩ := compact_step ys.toArray hs ys.length (by simp)
  refine ⟨h1, fun x => ?_⟩
  unfold Go.Lib.compact
  rw [h2, ← hm.mem_iff]
  constructor
  · rintro ⟨j, hj, rfl⟩
    rw [getElem!_pos ys.toArray j (by simpa using hj)]
    simp
  · intro hx
    obtain ⟨j, hj, e⟩ := List.mem_iff_getElem.1 hx
    exact ⟨j, hj, by rw [getElem!_pos ys.toArray j (by simpa using hj)]; simpa using e⟩
end Go.Proofs.Ytljfknneijmfoaa
