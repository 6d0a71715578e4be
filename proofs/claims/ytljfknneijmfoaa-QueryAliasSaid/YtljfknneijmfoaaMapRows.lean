import Derived.Test.YtljfknneijmfoaaHmap
import Derived.Sort.EncStr
import Derived.Laws.OwnMore
namespace Go.Proofs.Ytljfknneijmfoaa
open Go.RowKit Go.Maps Go.WideMaps

theorem enc_U (l : S) : encStr l = .string (U l) := rfl

/-- A slice value that owns the strings xs. -/
abbrev World.ownsS (w : World) (base : Nat) (v : Value) (xs : List S) : Prop := w.ownsRow base 9 1 v xs.length (xs.map encStr)

/-- A function of lists, turned at one place. -/
def updL (g : S → List S) (s : S) (xs : List S) : S → List S := fun x => if x = s then xs else g x

/-- Block b is a map of strings to slices, each nil or the call's own, no two in one block: at s it owns g s. -/
def nrows (w : World) (base b n : Nat) (f : S → Option Value) (g : S → List S) : Prop :=
  hmap w b n f ∧ (∀ s, (f s = none → g s = []) ∧ ∀ v, f s = some v → w.ownsRow base 9 1 v (g s).length ((g s).map encStr)) ∧
  ∀ s t v u, s ≠ t → f s = some v → f t = some u → v.ownBlock = none ∨ v.ownBlock ≠ u.ownBlock

variable {w w' : World} {base b n : Nat} {f : S → Option Value} {g : S → List S}

theorem nrows_made (w : World) (base : Nat) : nrows (w.alloc (.map #[] 0)) base w.heap.size 0 (fun _ => none) (fun _ => []) :=
  ⟨hmap_made w, fun _ => ⟨fun _ => rfl, fun v h => by cases h⟩, fun _ _ _ _ _ h => by cases h⟩

theorem nrows.hmap (h : nrows w base b n f g) : hmap w b n f := h.1

/-- What a look-up gives. -/
theorem nrows.at (h : nrows w base b n f g) (s : S) : w.ownsRow base 9 1 ((f s).getD (.slice none 0 0)) (g s).length ((g s).map encStr) := by
  obtain ⟨_, h2, _⟩ := h
  cases e : f s with
  | none => rw [(h2 s).1 e]; exact World.ownsRow_nil _ _ _ _
  | some v => exact (h2 s).2 v e

theorem nrows.kept {row : Option Nat} (h : nrows w base b n f g) (hg : w.grownBy w' row) (hb : some b ≠ row) (hr : ∀ s v, f s = some v → v.ownBlock = none ∨ v.ownBlock ≠ row) : nrows w' base b n f g :=
  ⟨h.1.kept hg hb, fun s => ⟨(h.2.1 s).1, fun v e => ((h.2.1 s).2 v e).kept hg (hr s v e)⟩, h.2.2⟩

theorem nrows.alloc (h : nrows w base b n f g) (o : Obj) : nrows (w.alloc o) base b n f g :=
  ⟨h.1.alloc o, fun s => ⟨(h.2.1 s).1, fun v e => ((h.2.1 s).2 v e).alloc o⟩, h.2.2⟩

theorem nrows.drew (h : nrows w base b n f g) : nrows w.drew base b n f g := h

theorem nrows.mono (h : nrows w base b n f g) {n' : Nat} (hn : n ≤ n') : nrows w base b n' f g := ⟨h.1.mono hn, h.2⟩

/-- A write below the rows' base, beside the map. -/
theorem nrows.low {k : Nat} (h : nrows w base b n f g) (hg : w.grownBy w' (some k)) (hb : b ≠ k) (hk : k < base) : nrows w' base b n f g := by
  refine h.kept hg (fun e => hb (Option.some.inj e)) fun s v e => ?_
  cases hv : v.ownBlock with
  | none => exact .inl rfl
  | some j =>
    right
    intro e'
    have := (((h.2.1 s).2 v e).lt j hv).1
    have := Option.some.inj e'
    omega

/-- The row at s is written (or made anew), then stored back at s. -/
theorem nrows.back (h : nrows w base b n f g) (s : S) {w1 w2 : World} {v' : Value} {xs' : List S} (hbb : b < base)
    (hg1 : w.grownBy w1 ((f s).getD (.slice none 0 0)).ownBlock) (hown : w1.ownsRow base 9 1 v' xs'.length (xs'.map encStr))
    (hloc : v'.ownBlock = none ∨ v'.ownBlock = ((f s).getD (.slice none 0 0)).ownBlock ∨ ∃ k, v'.ownBlock = some k ∧ w.heap.size ≤ k)
    {n' : Nat} (hm2 : Ytljfknneijmfoaa.hmap w2 b n' (upd f s v')) (hg2 : w1.grownBy w2 (some b)) : nrows w2 base b n' (upd f s v') (updL g s xs') := by
  have hlow : ∀ {x : World} {v : Value} {xs : List S}, x.ownsRow base 9 1 v xs.length (xs.map encStr) → v.ownBlock = none ∨ v.ownBlock ≠ some b := by
    intro x v xs hx
    cases hv : v.ownBlock with
    | none => exact .inl rfl
    | some j => right; intro e; have := (hx.lt j hv).1; have := Option.some.inj e; omega
  have hother : ∀ t v, t ≠ s → f t = some v → v.ownBlock = none ∨ v.ownBlock ≠ ((f s).getD (.slice none 0 0)).ownBlock := by
    intro t v hne e
    cases e' : f s with
    | none =>
      cases hv : v.ownBlock with
      | none => exact .inl rfl
      | some j => right; simp [Value.ownBlock]
    | some u => exact h.2.2 t s v u hne e e'
  refine ⟨hm2, fun t => ?_, fun t u v x hne hv hx => ?_⟩
  · unfold upd updL
    by_cases e : t = s
    · rw [if_pos e, if_pos e]
      refine ⟨(fun h' => nomatch h'), fun v hv => ?_⟩
      cases hv
      exact hown.kept hg2 (hlow hown)
    · rw [if_neg e, if_neg e]
      refine ⟨(h.2.1 t).1, fun v hv => ?_⟩
      have o1 := ((h.2.1 t).2 v hv).kept hg1 (hother t v e hv)
      exact o1.kept hg2 (hlow o1)
  · unfold upd at hv hx
    have hnew : ∀ t v, t ≠ s → f t = some v → v.ownBlock = none ∨ v.ownBlock ≠ v'.ownBlock := by
      intro t v hne hv
      rcases hloc with hl | hl | ⟨k, hl, hk⟩
      · cases hvo : v.ownBlock with
        | none => exact .inl rfl
        | some j => right; rw [hl]; simp
      · rw [hl]; exact hother t v hne hv
      · cases hvo : v.ownBlock with
        | none => exact .inl rfl
        | some j =>
          right
          rw [hl]
          intro e
          have := (((h.2.1 t).2 v hv).lt j hvo).2
          have := Option.some.inj e
          omega
    by_cases e1 : t = s
    · by_cases e2 : u = s
      · exact absurd (e1.trans e2.symm) hne
      · rw [if_pos e1] at hv
        rw [if_neg e2] at hx
        cases hv
        rcases hnew u x e2 hx with h' | h'
        · cases hvo : v'.ownBlock with
          | none => exact .inl rfl
          | some j => right; rw [h']; simp
        · exact .inr (Ne.symm h')
    · rw [if_neg e1] at hv
      by_cases e2 : u = s
      · rw [if_pos e2] at hx
        cases hx
        exact hnew t v e1 hv
      · rw [if_neg e2] at hx
        exact h.2.2 t u v x hne hv hx

/-- The row at s is written in its place. -/
theorem nrows.touch (h : nrows w base b n f g) (s : S) {w1 : World} {xs' : List S} (hbb : b < base)
    (hg1 : w.grownBy w1 ((f s).getD (.slice none 0 0)).ownBlock) (hown : w1.ownsRow base 9 1 ((f s).getD (.slice none 0 0)) xs'.length (xs'.map encStr)) : nrows w1 base b n f (updL g s xs') := by
  have hother : ∀ t v, t ≠ s → f t = some v → v.ownBlock = none ∨ v.ownBlock ≠ ((f s).getD (.slice none 0 0)).ownBlock := by
    intro t v hne e
    cases e' : f s with
    | none =>
      cases hv : v.ownBlock with
      | none => exact .inl rfl
      | some j => right; simp [Value.ownBlock]
    | some u => exact h.2.2 t s v u hne e e'
  have hbne : some b ≠ ((f s).getD (.slice none 0 0)).ownBlock := by
    intro e
    have := ((h.at s).lt b e.symm).1
    omega
  refine ⟨h.1.kept hg1 hbne, fun t => ?_, h.2.2⟩
  unfold updL
  by_cases e : t = s
  · rw [if_pos e]
    subst e
    refine ⟨fun h0 => ?_, fun v hv => ?_⟩
    · rw [h0] at hown
      rcases hown.2 with ⟨_, h1⟩ | ⟨k, cap, cur, h1, _⟩
      · exact List.length_eq_zero_iff.1 h1
      · cases h1
    · rw [hv] at hown; exact hown
  · rw [if_neg e]
    exact ⟨(h.2.1 t).1, fun v hv => ((h.2.1 t).2 v hv).kept hg1 (hother t v e hv)⟩

theorem own_block {w w' : World} {base : Nat} {e : TypeId} {size : Nat} {v : Value} {n : Nat} {xs : List Value} (h : w.ownsRow base e size v n xs) (hb : ∀ k, v.ownBlock = some k → w'.heap[k]? = w.heap[k]?) : w'.ownsRow base e size v n xs := by
  obtain ⟨h1, h2⟩ := h
  refine ⟨h1, ?_⟩
  rcases h2 with h2 | ⟨g, cap, cur, rfl, hg, hh, r⟩
  · exact .inl h2
  · exact .inr ⟨g, cap, cur, rfl, hg, (hb g rfl).trans hh, r⟩

theorem own_below {w w' : World} {base : Nat} {e : TypeId} {size : Nat} {v : Value} {n : Nat} {xs : List Value} {k : Nat} (h : w.ownsRow base e size v n xs) (hB : Below k w w') (hk : w.heap.size ≤ k) : w'.ownsRow base e size v n xs :=
  own_block h fun j hj => hB.block j (Nat.lt_of_lt_of_le (h.lt j hj).2 hk)

theorem own_base {w : World} {base base' : Nat} {e : TypeId} {size : Nat} {v : Value} {n : Nat} {xs : List Value} (h : w.ownsRow base e size v n xs) (hb : base' ≤ base) : w.ownsRow base' e size v n xs := by
  obtain ⟨h1, h2⟩ := h
  refine ⟨h1, ?_⟩
  rcases h2 with h2 | ⟨g, cap, cur, rfl, hg, r⟩
  · exact .inl h2
  · exact .inr ⟨g, cap, cur, rfl, by omega, r⟩

/-- All that a map of rows is lies below k. -/
theorem nrows.below {k : Nat} (h : nrows w base b n f g) (hB : Below k w w') (hk : w.heap.size ≤ k) : nrows w' base b n f g :=
  ⟨h.1.below hB (Nat.lt_of_lt_of_le h.1.lt hk), fun s => ⟨(h.2.1 s).1, fun v hv => own_below ((h.2.1 s).2 v hv) hB hk⟩, h.2.2⟩

theorem grownBy_setCell (w : World) (a : Addr) (v : Value) : w.grownBy (w.setCell a v) (some a.block) :=
  ⟨rfl, rfl, rfl, by simp [World.setCell], fun i _ hne => Below.heap_setCell w a v i (fun e => hne (by rw [e]))⟩

end Go.Proofs.Ytljfknneijmfoaa
