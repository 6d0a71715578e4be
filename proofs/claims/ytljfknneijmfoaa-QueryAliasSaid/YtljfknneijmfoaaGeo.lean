import Init
import Derived.Test.YtljfknneijmfoaaBfs
namespace Go.Proofs.Ytljfknneijmfoaa

/-- A shortest way, the least of these, from its first node, that is so far from 'to'. -/
inductive Geo (E : Es) (to : S) : Nat → List S → Prop
  | nil : Geo E to 0 [to]
  | cons {n : Nat} {a t : S} {p : List S} : Dist (rev E) [to] a (n + 1) → (a, t) ∈ E → Dist (rev E) [to] t n →
      (∀ u, (a, u) ∈ E → Dist (rev E) [to] u n → t ≤ u) → Geo E to n (t :: p) → Geo E to (n + 1) (a :: t :: p)

theorem Geo.dist {E : Es} {to : S} {n : Nat} {a : S} {p : List S} (h : Geo E to n (a :: p)) : Dist (rev E) [to] a n := by
  cases h with
  | nil => exact ⟨⟨to, by simp, .nil to⟩, fun _ _ _ _ => Nat.zero_le _⟩
  | cons h1 _ _ _ _ => exact h1

theorem Geo.uniq {E : Es} {to : S} {n : Nat} : ∀ {a : S} {p q : List S}, Geo E to n (a :: p) → Geo E to n (a :: q) → p = q := by
  induction n with
  | zero => intro a p q h h'; cases h; cases h'; rfl
  | succ n ih =>
    intro a p q h h'
    cases h with
    | cons h1 h2 h3 h4 h5 =>
    cases h' with
    | cons g1 g2 g3 g4 g5 =>
    rename_i t p u q
    have e : t = u := Std.le_antisymm (h4 u g2 g3) (g4 t h2 h3)
    subst e
    rw [ih h5 g5]

theorem Geo.last {E : Es} {to : S} {n : Nat} {p : List S} (h : Geo E to n p) : p.getLast? = some to := by
  induction h with
  | nil => rfl
  | cons _ _ _ _ _ ih => rw [List.getLast?_cons_cons]; exact ih

theorem Geo.length {E : Es} {to : S} {n : Nat} {p : List S} (h : Geo E to n p) : p.length = n + 1 := by
  induction h with
  | nil => rfl
  | cons _ _ _ _ _ ih => simp only [List.length_cons] at ih ⊢; omega

/-- The i-th node of a shortest way. -/
theorem Geo.at {E : Es} {to : S} {n : Nat} {p : List S} (h : Geo E to n p) : ∀ i (hi : i < p.length), Dist (rev E) [to] p[i] (n - i) := by
  induction h with
  | nil => intro i hi; simp at hi; subst hi; exact ⟨⟨to, by simp, .nil to⟩, fun _ _ _ _ => Nat.zero_le _⟩
  | cons h1 _ _ _ _ ih =>
    intro i hi
    cases i with
    | zero => exact h1
    | succ i =>
      simp only [List.length_cons] at hi
      have := ih i (by simp only [List.length_cons]; omega)
      simpa using this

theorem Geo.edge {E : Es} {to : S} {n : Nat} {p : List S} (h : Geo E to n p) : ∀ i (hi : i + 1 < p.length), (p[i], p[i + 1]) ∈ E := by
  induction h with
  | nil => intro i hi; simp at hi
  | cons _ h2 _ _ _ ih =>
    intro i hi
    cases i with
    | zero => exact h2
    | succ i =>
      simp only [List.length_cons] at hi
      exact ih i (by simp only [List.length_cons]; omega)

theorem Geo.ne {E : Es} {to : S} {n : Nat} {p : List S} (h : Geo E to n p) (i j : Nat) (hi : i < p.length) (hj : j < p.length) (hij : i ≠ j) : p[i] ≠ p[j] := by
  intro e
  have h1 := h.at i hi
  have h2 := h.at j hj
  rw [e] at h1
  have := h1.uniq h2
  have := h.length
  omega

/-- Where it can be come to at all, there is a nearest way on. -/
theorem dist_next {E : Es} {to a : S} {n : Nat} (h : Dist (rev E) [to] a (n + 1)) : ∃ t, (a, t) ∈ E ∧ Dist (rev E) [to] t n := by
  obtain ⟨⟨s, hs, w⟩, hm⟩ := h
  simp at hs; subst hs
  obtain ⟨t, ht, he⟩ := w.unsnoc
  refine ⟨t, mem_rev.1 he, ⟨s, by simp, ht⟩, ?_⟩
  intro m s' hs' w'
  simp at hs'; subst hs'
  have := hm _ _ (by simp) (w'.snoc he)
  omega

theorem conn_dist {E : Es} {src : List S} {x s : S} (hs : s ∈ src) (h : Conn E s x) : ∃ d, Dist E src x d := by
  obtain ⟨n, w⟩ := h
  induction n using Nat.strongRecOn generalizing s with
  | _ n ih =>
    by_cases hx : ∃ m t, t ∈ src ∧ Walk E m t x ∧ m < n
    · obtain ⟨m, t, ht, w', hl⟩ := hx
      exact ih m hl ht w'
    · refine ⟨n, ⟨s, hs, w⟩, ?_⟩
      intro m t ht w'
      have : ¬ m < n := fun hl => hx ⟨m, t, ht, w', hl⟩
      omega

theorem dist_conn {E : Es} {src : List S} {x : S} {d : Nat} (h : Dist E src x d) : ∃ s, s ∈ src ∧ Conn E s x :=
  let ⟨⟨s, hs, w⟩, _⟩ := h; ⟨s, hs, _, w⟩

theorem conn_rev {E : Es} {a b : S} : Conn (rev E) a b ↔ Conn E b a :=
  ⟨fun ⟨n, w⟩ => ⟨n, w.unrev⟩, fun ⟨n, w⟩ => ⟨n, w.rev⟩⟩

end Go.Proofs.Ytljfknneijmfoaa
