import Derived.Test.YtljfknneijmfoaaWays
namespace Go.Proofs.Ytljfknneijmfoaa

open Classical in
/-- The ring of a node. -/
noncomputable def ringOf (E : Es) (xs : List S) (s : S) : List S := xs.filter fun t => decide (Mut E s t)

/-- The rings whose first node stands among so many. -/
structure RS (E : Es) (xs : List S) (k : Nat) (gs : List (List S)) : Prop where
  asc : gs.Pairwise fun g h => hd g < hd h
  mem : ∀ g, g ∈ gs ↔ IsRing E g ∧ hd g ∈ xs.take k

theorem hd_mem {g : List S} (h : g ≠ []) : hd g ∈ g := by
  cases g with
  | nil => exact absurd rfl h
  | cons a g => exact List.mem_cons_self

theorem hd_le {g : List S} (h : SS g) {t : S} (ht : t ∈ g) : hd g ≤ t := by
  cases g with
  | nil => cases ht
  | cons a g =>
    rcases List.mem_cons.1 ht with rfl | ht
    · exact Std.le_refl _
    · exact Std.le_of_lt ((List.pairwise_cons.1 h).1 t ht)

theorem take_of_lt {xs : List S} (h : SS xs) {k : Nat} {s x : S} (hk : xs[k]? = some s) (hx : x ∈ xs) (hlt : x < s) : x ∈ xs.take k := by
  obtain ⟨hkl, rfl⟩ := List.getElem?_eq_some_iff.1 hk
  obtain ⟨j, hj, rfl⟩ := List.mem_iff_getElem.1 hx
  have hjk : j < k := by
    apply Classical.byContradiction
    intro c
    by_cases e : j = k
    · subst e; exact Std.lt_irrefl hlt
    · exact Std.lt_irrefl (Std.lt_trans hlt ((List.pairwise_iff_getElem.1 h) k j hkl hj (by omega)))
  rw [List.mem_iff_getElem]
  exact ⟨j, by rw [List.length_take]; omega, by rw [List.getElem_take]⟩

theorem lt_of_take {xs : List S} (h : SS xs) {k : Nat} {s x : S} (hk : xs[k]? = some s) (hx : x ∈ xs.take k) : x < s := by
  obtain ⟨hkl, rfl⟩ := List.getElem?_eq_some_iff.1 hk
  obtain ⟨j, hj, rfl⟩ := List.mem_iff_getElem.1 hx
  rw [List.length_take] at hj
  rw [List.getElem_take]
  exact (List.pairwise_iff_getElem.1 h) j k (by omega) hkl (by omega)

theorem mem_ringOf {E : Es} {xs : List S} {s t : S} (hX : IsNodes E xs) (hc : Cyc E s) : t ∈ ringOf E xs s ↔ Mut E s t := by
  unfold ringOf
  simp only [List.mem_filter, decide_eq_true_eq]
  exact ⟨fun h => h.2, fun h => ⟨(hX.2 t).2 (h.mem_cyc hc).node, h⟩⟩

theorem ringOf_ring {E : Es} {xs : List S} {s : S} (hX : IsNodes E xs) (hc : Cyc E s) : IsRing E (ringOf E xs s) :=
  ⟨List.Pairwise.filter _ hX.1, s, hc, fun _ => mem_ringOf hX hc⟩

theorem take_succ_mem {xs : List S} {k : Nat} {s x : S} (hk : xs[k]? = some s) : x ∈ xs.take (k + 1) ↔ x ∈ xs.take k ∨ x = s := by
  rw [List.take_add_one, hk, Option.toList_some, List.mem_append, List.mem_singleton]

variable {E : Es} {xs : List S} {k : Nat} {gs : List (List S)} {s : S}

theorem RS.done (h : RS E xs k gs) (hk : xs[k]? = some s) (hd' : ∃ g, g ∈ gs ∧ s ∈ g) : RS E xs (k + 1) gs := by
  obtain ⟨g0, hg0, hs0⟩ := hd'
  refine ⟨h.asc, fun g => (h.mem g).trans ⟨fun q => ⟨q.1, (take_succ_mem hk).2 (.inl q.2)⟩, fun q => ⟨q.1, ?_⟩⟩⟩
  rcases (take_succ_mem hk).1 q.2 with q2 | q2
  · exact q2
  · have hsg : s ∈ g := by rw [← q2]; exact hd_mem q.1.ne_nil
    have := ((h.mem g0).1 hg0).1.eq_of_mem q.1 hs0 hsg
    rw [← this]
    exact ((h.mem g0).1 hg0).2

theorem RS.nocyc (h : RS E xs k gs) (hk : xs[k]? = some s) (hc : ¬ Cyc E s) : RS E xs (k + 1) gs := by
  refine ⟨h.asc, fun g => (h.mem g).trans ⟨fun q => ⟨q.1, (take_succ_mem hk).2 (.inl q.2)⟩, fun q => ⟨q.1, ?_⟩⟩⟩
  rcases (take_succ_mem hk).1 q.2 with q2 | q2
  · exact q2
  · exact absurd (q.1.cyc (a := s) (by rw [← q2]; exact hd_mem q.1.ne_nil)) hc

theorem RS.hd_new (h : RS E xs k gs) (hX : IsNodes E xs) (hk : xs[k]? = some s) (hc : Cyc E s) (hn : ¬ ∃ g, g ∈ gs ∧ s ∈ g) : hd (ringOf E xs s) = s := by
  have hr := ringOf_ring hX hc
  have hs : s ∈ ringOf E xs s := (mem_ringOf hX hc).2 (Mut.refl E s)
  apply Classical.byContradiction
  intro hne
  have hlt : hd (ringOf E xs s) < s := Std.lt_of_le_of_ne (hd_le hr.1 hs) hne
  have hx : hd (ringOf E xs s) ∈ xs := (List.mem_filter.1 (hd_mem hr.ne_nil)).1
  exact hn ⟨_, (h.mem _).2 ⟨hr, take_of_lt hX.1 hk hx hlt⟩, hs⟩

theorem RS.new (h : RS E xs k gs) (hX : IsNodes E xs) (hk : xs[k]? = some s) (hc : Cyc E s) (hn : ¬ ∃ g, g ∈ gs ∧ s ∈ g) : RS E xs (k + 1) (gs ++ [ringOf E xs s]) := by
  have hhd := h.hd_new hX hk hc hn
  have hr := ringOf_ring hX hc
  refine ⟨?_, fun g => ?_⟩
  · rw [List.pairwise_append]
    refine ⟨h.asc, by simp, fun a ha b hb => ?_⟩
    rw [List.mem_singleton] at hb
    subst hb
    rw [hhd]
    exact lt_of_take hX.1 hk ((h.mem a).1 ha).2
  · rw [List.mem_append, List.mem_singleton, h.mem]
    constructor
    · rintro (q | rfl)
      · exact ⟨q.1, (take_succ_mem hk).2 (.inl q.2)⟩
      · exact ⟨hr, (take_succ_mem hk).2 (.inr hhd)⟩
    · rintro ⟨q1, q2⟩
      rcases (take_succ_mem hk).1 q2 with q2 | q2
      · exact .inl ⟨q1, q2⟩
      · right
        have hsg : s ∈ g := by rw [← q2]; exact hd_mem q1.ne_nil
        exact q1.eq_of_mem hr hsg ((mem_ringOf hX hc).2 (Mut.refl E s))

theorem RS.all (h : RS E xs xs.length gs) (hX : IsNodes E xs) : IsRings E gs := by
  refine ⟨h.asc, fun g => (h.mem g).trans ⟨fun q => q.1, fun q => ⟨q, ?_⟩⟩⟩
  rw [List.take_length]
  exact (hX.2 _).2 (q.cyc (hd_mem q.ne_nil)).node

theorem RS.start : RS E xs 0 [] := ⟨.nil, fun g => ⟨fun h => (by cases h), fun h => (by simp at h)⟩⟩

/-- Two rings have nobody in common: what is in none so far, and goes in a ring with s, is in none. -/
theorem RS.fresh (h : RS E xs k gs) {t : S} (hm : Mut E s t) (hn : ¬ ∃ g, g ∈ gs ∧ s ∈ g) : ¬ ∃ g, g ∈ gs ∧ t ∈ g := by
  rintro ⟨g, hg, ht⟩
  obtain ⟨_, q, hq, hqm⟩ := ((h.mem g).1 hg).1
  exact hn ⟨g, hg, (hqm s).2 (((hqm t).1 ht).trans hm.symm)⟩

theorem ringOf_take (E : Es) (xs : List S) (s : S) (i : Nat) (h : i < xs.length) : ringOf E (xs.take (i + 1)) s = ringOf E (xs.take i) s ++ (open Classical in if Mut E s xs[i] then [xs[i]] else []) := by
  unfold ringOf
  rw [List.take_add_one, List.getElem?_eq_getElem h, Option.toList_some, List.filter_append]
  congr 1
  rw [List.filter_cons, List.filter_nil]
  by_cases hm : Mut E s xs[i]
  · simp [hm]
  · simp [hm]
end Go.Proofs.Ytljfknneijmfoaa
