import Derived.Test.YtljfknneijmfoaaRingP
namespace Go.Proofs.Ytljfknneijmfoaa

theorem IsRings.nodup {E : Es} {gs : List (List S)} (h : IsRings E gs) : gs.Nodup :=
  h.1.imp fun hlt e => by rw [e] at hlt; exact Std.lt_irrefl hlt

/-- In how many rings one stands. -/
theorem ring_count {E : Es} {gs : List (List S)} {xs : List S} (h : IsRings E gs) (hX : IsNodes E xs) (s : S) : ((gs.filter fun g => g.contains s).length ≤ 1) ∧ ((gs.filter fun g => g.contains s).length = 1 ↔ Cyc E s) := by
  have hall : ∀ g ∈ gs.filter (fun g => g.contains s), IsRing E g ∧ s ∈ g := fun g hg => by
    obtain ⟨h1, h2⟩ := List.mem_filter.1 hg
    exact ⟨(h.2 g).1 h1, List.contains_iff_mem.1 h2⟩
  have hnd : (gs.filter fun g => g.contains s).Nodup := h.nodup.sublist List.filter_sublist
  have hin : Cyc E s → ringOf E xs s ∈ gs.filter fun g => g.contains s := fun hc =>
    List.mem_filter.2 ⟨(h.2 _).2 (ringOf_ring hX hc), List.contains_iff_mem.2 ((mem_ringOf hX hc).2 (.refl E s))⟩
  generalize gs.filter (fun g => g.contains s) = l at hall hnd hin
  match l, hall, hnd, hin with
  | [], _, _, hin => exact ⟨by simp, ⟨fun h => by simp at h, fun hc => by have := hin hc; cases this⟩⟩
  | [g], hall, _, _ => exact ⟨by simp, ⟨fun _ => (hall g (by simp)).1.cyc (hall g (by simp)).2, fun _ => rfl⟩⟩
  | a :: b :: r, hall, hnd, _ =>
    have e := (hall a (by simp)).1.eq_of_mem (hall b (by simp)).1 (hall a (by simp)).2 (hall b (by simp)).2
    exact absurd e ((List.pairwise_cons.1 hnd).1 b (by simp))

/-- One comes to oneself by an edge of one's own. -/
theorem self_iff {es : List (S × Int × S)} {s : S} : (∃ e ∈ es, e.1 = s ∧ Conn (es.map fun e => (e.1, e.2.2)) e.2.2 s) ↔ Cyc (es.map fun e => (e.1, e.2.2)) s := by
  constructor
  · rintro ⟨e, he, rfl, hc⟩
    exact ⟨e.2.2, List.mem_map.2 ⟨e, he, rfl⟩, hc⟩
  · rintro ⟨b, hb, hc⟩
    obtain ⟨e, he, h⟩ := List.mem_map.1 hb
    injection h with h1 h2
    subst h1
    subst h2
    exact ⟨e, he, rfl, hc⟩

theorem ss_step {g : List S} (h : SS g) (i : Nat) (hi : i + 1 < g.length) : g[i] < g[i + 1] := List.pairwise_iff_getElem.1 h i (i + 1) (by omega) hi (by omega)

theorem hd_at {g : List S} {x : S} (h : g[0]? = some x) : hd g = x := by
  cases g with
  | nil => cases h
  | cons a r => simpa [hd] using h

theorem heads_step {E : Es} {gs : List (List S)} (h : IsRings E gs) (k : Nat) (hk : k + 1 < gs.length) {x y : S} (hx : gs[k][0]? = some x) (hy : gs[k + 1][0]? = some y) : x < y := by
  have := List.pairwise_iff_getElem.1 h.1 k (k + 1) (by omega) hk (by omega)
  rw [hd_at hx, hd_at hy] at this
  exact this
end Go.Proofs.Ytljfknneijmfoaa
