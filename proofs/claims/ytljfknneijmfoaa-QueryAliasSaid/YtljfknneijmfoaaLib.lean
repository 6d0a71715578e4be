import Derived.Test.YtljfknneijmfoaaShelf
import Derived.Test.YtljfknneijmfoaaHmap
import Derived.Test.YtljfknneijmfoaaMapRows
import Derived.Test.YtljfknneijmfoaaRings
namespace Go.Proofs.Ytljfknneijmfoaa
open Go.RowKit Go.Maps Go.WideMaps

theorem leS_trans (a b c : S) (h : decide (a ≤ b) = true) (h' : decide (b ≤ c) = true) : decide (a ≤ c) = true := by
  simp only [decide_eq_true_eq] at *
  exact List.le_trans h h'
theorem leS_total (a b : S) : (decide (a ≤ b) || decide (b ≤ a)) = true := by
  simp only [Bool.or_eq_true, decide_eq_true_eq]
  exact List.le_total a b

/-- A sort of what stands there once is strictly ascending. -/
theorem SS_mergeSort {l : List S} (h : l.Nodup) : SS (l.mergeSort fun x y => decide (x ≤ y)) := by
  have h1 := List.pairwise_mergeSort leS_trans leS_total l
  have h2 : (l.mergeSort fun x y => decide (x ≤ y)).Nodup := (List.mergeSort_perm l _).nodup_iff.2 h
  rw [List.nodup_iff_pairwise_ne] at h2
  refine (h1.and h2).imp fun {a b} hab => ?_
  obtain ⟨hab, hne⟩ := hab
  simp only [decide_eq_true_eq] at hab
  exact Std.lt_of_le_of_ne hab hne

/-- maps.Keys at a map of ints. -/
theorem keys62 (mb : Option Nat) (w : World) : Calls Try.prog 62 #[.map mb] w fun e w' => e = .returned (.func (.func 89) #[] #[.pointer (some ⟨w.heap.size, 0, none⟩)]) ∧ w' = w.alloc (.cells #[.map mb] 84) :=
  callsIn_wide.1 (Try.maps_Keys_62 mb w)

/-- slices.Sorted of a map's keys. -/
theorem sorted61 {b n : Nat} {f : S → Option Value} {w : World} (h : hmap w b n f) (hn : n ≤ 1000000) :
    Calls Try.prog 61 #[.func (.func 89) #[] #[.pointer (some ⟨w.heap.size, 0, none⟩)]] (w.alloc (.cells #[.map (some b)] 84)) fun e w' => ∃ (v : Value) (xs : List S), e = .returned v ∧ SS xs ∧ (∀ x, x ∈ xs ↔ (f x).isSome = true) ∧ xs.length ≤ n ∧
      w'.ownsRow (w.heap.size + 1) 9 1 v xs.length (xs.map encStr) ∧ Below (w.heap.size + 1) (w.alloc (.cells #[.map (some b)] 84)) w' := by
  obtain ⟨D, hD, hf⟩ := h
  have hsz := hD.size_le
  refine (callsIn_wide.1 (Try.slices_Sorted_keys_61_62 b n D Rh w hD (by unfold maxLen; omega) (by omega))).mono ?_
  rintro e w' ⟨v, ss, rfl, hp, hrow, _, hb⟩
  obtain ⟨hnd, hmem⟩ := keys_of hD hf hp
  refine ⟨v, ss.mergeSort fun x y => decide (x ≤ y), rfl, SS_mergeSort hnd, fun x => ?_, ?_, ?_, by simpa using hb⟩
  · rw [(List.mergeSort_perm ss _).mem_iff]; exact hmem x
  · rw [List.length_mergeSort, hp.length_eq]
    obtain ⟨es, rfl, _⟩ := hD.keysOf
    show (es.map _).length ≤ n
    rw [List.length_map]
    exact hsz
  · rw [List.length_mergeSort]
    simpa using hrow
end Go.Proofs.Ytljfknneijmfoaa
