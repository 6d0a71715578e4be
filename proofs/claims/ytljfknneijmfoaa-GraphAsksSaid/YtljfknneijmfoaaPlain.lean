import Init
namespace Go.Proofs.Ytljfknneijmfoaa

abbrev S := List UInt8
abbrev Es := List (S × S)

/-- Strictly ascending by bytes. -/
def SS (l : List S) : Prop := l.Pairwise (· < ·)

theorem SS.nodup {l : List S} (h : SS l) : l.Nodup := by
  rw [List.nodup_iff_pairwise_ne]
  exact h.imp fun {a b} hab e => by subst e; exact Std.lt_irrefl hab

theorem SS.ext {a b : List S} (ha : SS a) (hb : SS b) (h : ∀ x, x ∈ a ↔ x ∈ b) : a = b := by
  have hp : a.Perm b := (List.perm_ext_iff_of_nodup ha.nodup hb.nodup).2 h
  refine hp.eq_of_pairwise ?_ ha hb
  intro x y _ _ h1 h2
  exact absurd (Std.lt_trans h1 h2) Std.lt_irrefl

/-- A walk of so many edges. -/
inductive Walk (E : Es) : Nat → S → S → Prop
  | nil (a : S) : Walk E 0 a a
  | cons {n : Nat} {a b c : S} : (a, b) ∈ E → Walk E n b c → Walk E (n + 1) a c

theorem Walk.snoc {E : Es} {n : Nat} {a b c : S} (h : Walk E n a b) (he : (b, c) ∈ E) : Walk E (n + 1) a c := by
  induction h with
  | nil a => exact .cons he (.nil c)
  | cons h1 _ ih => exact .cons h1 (ih he)

theorem Walk.trans {E : Es} {n m : Nat} {a b c : S} (h : Walk E n a b) (h' : Walk E m b c) : Walk E (n + m) a c := by
  induction h with
  | nil a => simpa using h'
  | cons h1 _ ih => rw [Nat.add_right_comm]; exact .cons h1 (ih h')

theorem Walk.unsnoc {E : Es} {n : Nat} {a c : S} (h : Walk E (n + 1) a c) : ∃ b, Walk E n a b ∧ (b, c) ∈ E := by
  induction n generalizing a with
  | zero => cases h with
    | cons h1 h2 => cases h2; exact ⟨a, .nil a, h1⟩
  | succ n ih => cases h with
    | cons h1 h2 => obtain ⟨b, hb, he⟩ := ih h2; exact ⟨b, .cons h1 hb, he⟩

theorem Walk.sub {E F : Es} (h : ∀ e, e ∈ E → e ∈ F) {n : Nat} {a b : S} (w : Walk E n a b) : Walk F n a b := by
  induction w with
  | nil a => exact .nil a
  | cons h1 _ ih => exact .cons (h _ h1) ih

/-- The edges the other way round. -/
def rev (E : Es) : Es := E.map fun e => (e.2, e.1)

theorem mem_rev {E : Es} {a b : S} : (a, b) ∈ rev E ↔ (b, a) ∈ E := by
  unfold rev
  rw [List.mem_map]
  constructor
  · rintro ⟨⟨x, y⟩, h, e⟩; cases e; exact h
  · intro h; exact ⟨(b, a), h, rfl⟩

theorem Walk.rev {E : Es} {n : Nat} {a b : S} (w : Walk E n a b) : Walk (rev E) n b a := by
  induction w with
  | nil a => exact .nil a
  | cons h1 _ ih => exact ih.snoc (mem_rev.2 h1)

theorem Walk.unrev {E : Es} {n : Nat} {a b : S} (w : Walk (Ytljfknneijmfoaa.rev E) n a b) : Walk E n b a := by
  have := w.rev
  refine this.sub ?_
  intro e he
  simpa [Ytljfknneijmfoaa.rev] using he

/-- It can be come to. -/
def Conn (E : Es) (a b : S) : Prop := ∃ n, Walk E n a b

theorem Conn.refl (E : Es) (a : S) : Conn E a a := ⟨0, .nil a⟩
theorem Conn.trans {E : Es} {a b c : S} (h : Conn E a b) (h' : Conn E b c) : Conn E a c :=
  let ⟨_, x⟩ := h; let ⟨_, y⟩ := h'; ⟨_, x.trans y⟩
theorem Conn.edge {E : Es} {a b : S} (h : (a, b) ∈ E) : Conn E a b := ⟨1, .cons h (.nil b)⟩
theorem Conn.sub {E F : Es} (h : ∀ e, e ∈ E → e ∈ F) {a b : S} (w : Conn E a b) : Conn F a b := let ⟨n, x⟩ := w; ⟨n, x.sub h⟩

/-- 'd' is how far 'x' is from the nearest of 'src'. -/
def Dist (E : Es) (src : List S) (x : S) (d : Nat) : Prop :=
  (∃ s, s ∈ src ∧ Walk E d s x) ∧ ∀ m s, s ∈ src → Walk E m s x → d ≤ m

theorem Dist.uniq {E : Es} {src : List S} {x : S} {d e : Nat} (h : Dist E src x d) (h' : Dist E src x e) : d = e := by
  obtain ⟨⟨s, hs, w⟩, hm⟩ := h
  obtain ⟨⟨t, ht, v⟩, hn⟩ := h'
  have := hm _ _ ht v
  have := hn _ _ hs w
  omega

/-! ### Breadth first -/

/-- What stands between two rounds: 'out' is what has been met and how far it is; 'todo' waits;
of 's' the followers 'rest' are still to be looked at. -/
structure Bfs (E : Es) (src : List S) (out : S → Option Nat) (todo : List S) (s : S) (rest : List S) : Prop where
  sound : ∀ x d, out x = some d → ∃ a, a ∈ src ∧ Walk E d a x
  start : ∀ x, x ∈ src → out x = some 0
  met : ∀ x, x ∈ todo → (out x).isSome
  once : todo.Nodup
  cur : ∃ ds, out s = some ds ∧ s ∉ todo ∧ (∀ x d, out x = some d → d ≤ ds + 1) ∧ (∀ x, x ∈ todo → ∀ d, out x = some d → ds ≤ d)
  done : ∀ x, (out x).isSome → x ∉ todo → ∀ y, (x, y) ∈ E → (x = s ∧ y ∈ rest) ∨ ∃ d e, out x = some d ∧ out y = some e ∧ e ≤ d + 1
  asc : todo.Pairwise fun x y => ∀ d e, out x = some d → out y = some e → d ≤ e

/-- Ahead of a round. -/
structure Bfs0 (E : Es) (src : List S) (out : S → Option Nat) (todo : List S) : Prop where
  sound : ∀ x d, out x = some d → ∃ a, a ∈ src ∧ Walk E d a x
  start : ∀ x, x ∈ src → out x = some 0
  met : ∀ x, x ∈ todo → (out x).isSome
  once : todo.Nodup
  near : ∀ s, s ∈ todo.head? → ∀ ds, out s = some ds → ∀ x d, out x = some d → d ≤ ds + 1
  done : ∀ x, (out x).isSome → x ∉ todo → ∀ y, (x, y) ∈ E → ∃ d e, out x = some d ∧ out y = some e ∧ e ≤ d + 1
  asc : todo.Pairwise fun x y => ∀ d e, out x = some d → out y = some e → d ≤ e

theorem Bfs0.init (E : Es) (src todo : List S) (out : S → Option Nat) (h1 : ∀ x, x ∈ src → out x = some 0) (h2 : ∀ x, x ∉ src → out x = none)
    (h3 : ∀ x, x ∈ todo ↔ x ∈ src) (h4 : todo.Nodup) : Bfs0 E src out todo := by
  have h0 : ∀ x d, out x = some d → x ∈ src ∧ d = 0 := by
    intro x d h
    by_cases hx : x ∈ src
    · rw [h1 x hx] at h; cases h; exact ⟨hx, rfl⟩
    · rw [h2 x hx] at h; cases h
  refine ⟨?_, h1, ?_, h4, ?_, ?_, ?_⟩
  · intro x d h; obtain ⟨hx, rfl⟩ := h0 x d h; exact ⟨x, hx, .nil x⟩
  · intro x hx; rw [h1 x ((h3 x).1 hx)]; rfl
  · intro s _ ds _ x d hx; obtain ⟨_, rfl⟩ := h0 x d hx; omega
  · intro x hx hn; obtain ⟨d, hd⟩ := Option.isSome_iff_exists.1 hx; exact absurd ((h3 x).2 (h0 x d hd).1) hn
  · refine List.Pairwise.imp_of_mem ?_ (List.nodup_iff_pairwise_ne.1 h4)
    intro a b _ _ _ d e hd he
    obtain ⟨_, rfl⟩ := h0 _ _ hd; omega

theorem Bfs0.pop {E : Es} {src : List S} {out : S → Option Nat} {s : S} {todo rest : List S} (h : Bfs0 E src out (s :: todo)) (hr : ∀ y, y ∈ rest ↔ (s, y) ∈ E) :
    Bfs E src out todo s rest := by
  obtain ⟨ds, hds⟩ := Option.isSome_iff_exists.1 (h.met s (by simp))
  have hs : s ∉ todo := (List.nodup_cons.1 h.once).1
  refine ⟨h.sound, h.start, fun x hx => h.met x (by simp [hx]), (List.nodup_cons.1 h.once).2, ⟨ds, hds, hs, ?_, ?_⟩, ?_, ?_⟩
  · exact h.near s (by simp) ds hds
  · intro x hx d hd; exact (List.pairwise_cons.1 h.asc).1 x hx ds d hds hd
  · intro x hx hn y hy
    by_cases e : x = s
    · subst e; exact .inl ⟨rfl, (hr y).2 hy⟩
    · exact .inr (h.done x hx (by simp [e, hn]) y hy)
  · exact (List.pairwise_cons.1 h.asc).2

theorem Bfs.old {E : Es} {src : List S} {out : S → Option Nat} {s t : S} {todo rest : List S} (h : Bfs E src out todo s (t :: rest)) (ht : (out t).isSome) :
    Bfs E src out todo s rest := by
  refine ⟨h.sound, h.start, h.met, h.once, h.cur, ?_, h.asc⟩
  intro x hx hn y hy
  rcases h.done x hx hn y hy with ⟨rfl, hm⟩ | h'
  · rcases List.mem_cons.1 hm with rfl | hm
    · obtain ⟨ds, hds, _, hle, _⟩ := h.cur
      obtain ⟨e, he⟩ := Option.isSome_iff_exists.1 ht
      exact .inr ⟨ds, e, hds, he, hle _ _ he⟩
    · exact .inl ⟨rfl, hm⟩
  · exact .inr h'

theorem Bfs.fresh {E : Es} {src : List S} {out : S → Option Nat} {s t : S} {todo rest : List S} {ds : Nat} (h : Bfs E src out todo s (t :: rest)) (hE : (s, t) ∈ E) (ht : out t = none) (hds : out s = some ds) :
    Bfs E src (fun x => if x = t then some (ds + 1) else out x) (todo ++ [t]) s rest := by
  obtain ⟨ds', hds', hs, hle, hge⟩ := h.cur
  obtain rfl : ds' = ds := by rw [hds'] at hds; exact Option.some.inj hds
  have hst : s ≠ t := by rintro rfl; rw [ht] at hds; cases hds
  have htt : t ∉ todo := by intro hm; have := h.met t hm; rw [ht] at this; cases this
  have hold : ∀ x, (out x).isSome → x ≠ t := by rintro x hx rfl; rw [ht] at hx; cases hx
  refine ⟨?_, ?_, ?_, ?_, ⟨ds', by simp [hst, hds'], by simp [hs, hst], ?_, ?_⟩, ?_, ?_⟩
  · intro x d hx
    by_cases e : x = t
    · subst e; simp at hx; subst hx
      obtain ⟨a, ha, w⟩ := h.sound s ds' hds'
      exact ⟨a, ha, w.snoc hE⟩
    · simp [e] at hx; exact h.sound x d hx
  · intro x hx
    have := h.start x hx
    simp [hold x (by rw [this]; rfl), this]
  · intro x hx
    by_cases e : x = t
    · simp [e]
    · simp [e] at hx ⊢; exact h.met x hx
  · rw [List.nodup_append]
    refine ⟨h.once, by simp, ?_⟩
    intro a ha b hb
    simp at hb
    subst hb
    rintro rfl
    exact htt ha
  · intro x d hx
    by_cases e : x = t
    · simp [e] at hx; omega
    · simp [e] at hx; exact hle x d hx
  · intro x hx d hd
    by_cases e : x = t
    · simp [e] at hd; omega
    · simp [e] at hx hd; exact hge x hx d hd
  · intro x hx hn y hy
    have hxt : x ≠ t := by rintro rfl; simp at hn
    have hx' : (out x).isSome := by simpa [hxt] using hx
    rcases h.done x hx' (by intro hm; exact hn (by simp [hm])) y hy with ⟨rfl, hm⟩ | ⟨d, e, hd, he, hl⟩
    · rcases List.mem_cons.1 hm with rfl | hm
      · exact .inr ⟨ds', ds' + 1, by simp [hst, hds'], by simp, by omega⟩
      · exact .inl ⟨rfl, hm⟩
    · have hy' : y ≠ t := hold y (by rw [he]; rfl)
      exact .inr ⟨d, e, by simp [hxt, hd], by simp [hy', he], hl⟩
  · rw [List.pairwise_append]
    refine ⟨?_, by simp, ?_⟩
    · refine List.Pairwise.imp_of_mem ?_ h.asc
      intro a b ha hb hab d e hd he
      have ha' := hold a (h.met a ha)
      have hb' := hold b (h.met b hb)
      simp [ha'] at hd
      simp [hb'] at he
      exact hab d e hd he
    · intro a ha b hb d e hd he
      simp at hb
      subst hb
      have ha' := hold a (h.met a ha)
      simp [ha'] at hd
      simp at he
      have := hle a d hd
      omega

theorem Bfs.next {E : Es} {src : List S} {out : S → Option Nat} {s : S} {todo : List S} (h : Bfs E src out todo s []) : Bfs0 E src out todo := by
  obtain ⟨ds, hds, hs, hle, hge⟩ := h.cur
  refine ⟨h.sound, h.start, h.met, h.once, ?_, ?_, h.asc⟩
  · intro x hx dx hdx y d hy
    have hx' : x ∈ todo := by cases todo <;> simp_all
    have := hge x hx' dx hdx
    have := hle y d hy
    omega
  · intro x hx hn y hy
    rcases h.done x hx hn y hy with ⟨_, hm⟩ | h'
    · cases hm
    · exact h'

theorem Bfs0.done_all {E : Es} {src : List S} {out : S → Option Nat} (h : Bfs0 E src out []) (x : S) (d : Nat) : out x = some d ↔ Dist E src x d := by
  have key : ∀ m s x, s ∈ src → Walk E m s x → ∃ d, out x = some d ∧ d ≤ m := by
    intro m
    induction m with
    | zero => intro s x hs w; cases w; exact ⟨0, h.start _ hs, Nat.le_refl _⟩
    | succ m ih =>
      intro s x hs w
      obtain ⟨b, hb, he⟩ := w.unsnoc
      obtain ⟨d, hd, hl⟩ := ih s b hs hb
      obtain ⟨d', e, hd', he', hl'⟩ := h.done b (by rw [hd]; rfl) (by simp) x he
      rw [hd] at hd'; cases hd'
      exact ⟨e, he', by omega⟩
  constructor
  · intro hx
    refine ⟨h.sound x d hx, ?_⟩
    intro m s hs w
    obtain ⟨d', hd', hl⟩ := key m s x hs w
    rw [hx] at hd'; cases hd'
    exact hl
  · rintro ⟨⟨s, hs, w⟩, hm⟩
    obtain ⟨d', hd', hl⟩ := key d s x hs w
    obtain ⟨a, ha, w'⟩ := h.sound x d' hd'
    have := hm d' a ha w'
    rw [hd']
    congr 1
    omega
end Go.Proofs.Ytljfknneijmfoaa

namespace Go.Proofs.Ytljfknneijmfoaa

/-- A shortest way, the least of these, from its first node, that is so far from 'to'. -/
inductive Geo (E : Es) (to : S) : Nat → List S → Prop
  | nil : Geo E to 0 [to]
  | cons {n : Nat} {a t : S} {p : List S} : Dist (rev E) [to] a (n + 1) → (a, t) ∈ E → Dist (rev E) [to] t n →
      (∀ u, (a, u) ∈ E → Dist (rev E) [to] u n → t ≤ u) → Geo E to n (t :: p) → Geo E to (n + 1) (a :: t :: p)

theorem Geo.dist {E : Es} {to : S} {n : Nat} {a : S} {p : List S} (h : Geo E to n (a :: p)) : Dist (rev E) [to] a n := by
  cases h with
  | nil => exact ⟨⟨to, by simp, .nil to⟩, fun _ _ _ _ => Nat.zero_le _⟩
  | cons h1 _ _ _ _ => exact h1

theorem Geo.uniq {E : Es} {to : S} {n : Nat} : ∀ {a : S} {p q : List S}, Geo E to n (a :: p) → Geo E to n (a :: q) → p = q := by
  induction n with
  | zero => intro a p q h h'; cases h; cases h'; rfl
  | succ n ih =>
    intro a p q h h'
    cases h with
    | cons h1 h2 h3 h4 h5 =>
    cases h' with
    | cons g1 g2 g3 g4 g5 =>
    rename_i t p u q
    have e : t = u := Std.le_antisymm (h4 u g2 g3) (g4 t h2 h3)
    subst e
    rw [ih h5 g5]

theorem Geo.last {E : Es} {to : S} {n : Nat} {p : List S} (h : Geo E to n p) : p.getLast? = some to := by
  induction h with
  | nil => rfl
  | cons _ _ _ _ _ ih => rw [List.getLast?_cons_cons]; exact ih

theorem Geo.length {E : Es} {to : S} {n : Nat} {p : List S} (h : Geo E to n p) : p.length = n + 1 := by
  induction h with
  | nil => rfl
  | cons _ _ _ _ _ ih => simp only [List.length_cons] at ih ⊢; omega

/-- The i-th node of a shortest way. -/
theorem Geo.at {E : Es} {to : S} {n : Nat} {p : List S} (h : Geo E to n p) : ∀ i (hi : i < p.length), Dist (rev E) [to] p[i] (n - i) := by
  induction h with
  | nil => intro i hi; simp at hi; subst hi; exact ⟨⟨to, by simp, .nil to⟩, fun _ _ _ _ => Nat.zero_le _⟩
  | cons h1 _ _ _ _ ih =>
    intro i hi
    cases i with
    | zero => exact h1
    | succ i =>
      simp only [List.length_cons] at hi
      have := ih i (by simp only [List.length_cons]; omega)
      simpa using this

theorem Geo.edge {E : Es} {to : S} {n : Nat} {p : List S} (h : Geo E to n p) : ∀ i (hi : i + 1 < p.length), (p[i], p[i + 1]) ∈ E := by
  induction h with
  | nil => intro i hi; simp at hi
  | cons _ h2 _ _ _ ih =>
    intro i hi
    cases i with
    | zero => exact h2
    | succ i =>
      simp only [List.length_cons] at hi
      exact ih i (by simp only [List.length_cons]; omega)

theorem Geo.ne {E : Es} {to : S} {n : Nat} {p : List S} (h : Geo E to n p) (i j : Nat) (hi : i < p.length) (hj : j < p.length) (hij : i ≠ j) : p[i] ≠ p[j] := by
  intro e
  have h1 := h.at i hi
  have h2 := h.at j hj
  rw [e] at h1
  have := h1.uniq h2
  have := h.length
  omega

/-- Where it can be come to at all, there is a nearest way on. -/
theorem dist_next {E : Es} {to a : S} {n : Nat} (h : Dist (rev E) [to] a (n + 1)) : ∃ t, (a, t) ∈ E ∧ Dist (rev E) [to] t n := by
  obtain ⟨⟨s, hs, w⟩, hm⟩ := h
  simp at hs; subst hs
  obtain ⟨t, ht, he⟩ := w.unsnoc
  refine ⟨t, mem_rev.1 he, ⟨s, by simp, ht⟩, ?_⟩
  intro m s' hs' w'
  simp at hs'; subst hs'
  have := hm _ _ (by simp) (w'.snoc he)
  omega

theorem conn_dist {E : Es} {src : List S} {x s : S} (hs : s ∈ src) (h : Conn E s x) : ∃ d, Dist E src x d := by
  obtain ⟨n, w⟩ := h
  induction n using Nat.strongRecOn generalizing s with
  | _ n ih =>
    by_cases hx : ∃ m t, t ∈ src ∧ Walk E m t x ∧ m < n
    · obtain ⟨m, t, ht, w', hl⟩ := hx
      exact ih m hl ht w'
    · refine ⟨n, ⟨s, hs, w⟩, ?_⟩
      intro m t ht w'
      have : ¬ m < n := fun hl => hx ⟨m, t, ht, w', hl⟩
      omega

theorem dist_conn {E : Es} {src : List S} {x : S} {d : Nat} (h : Dist E src x d) : ∃ s, s ∈ src ∧ Conn E s x :=
  let ⟨⟨s, hs, w⟩, _⟩ := h; ⟨s, hs, _, w⟩

theorem conn_rev {E : Es} {a b : S} : Conn (rev E) a b ↔ Conn E b a :=
  ⟨fun ⟨n, w⟩ => ⟨n, w.unrev⟩, fun ⟨n, w⟩ => ⟨n, w.rev⟩⟩

end Go.Proofs.Ytljfknneijmfoaa

namespace Go.Proofs.Ytljfknneijmfoaa

/-- The members of a list, ascending, each once. -/
def IsSrt (l out : List S) : Prop := SS out ∧ ∀ x, x ∈ out ↔ x ∈ l

theorem IsSrt.uniq {l a b : List S} (h : IsSrt l a) (h' : IsSrt l b) : a = b := h.1.ext h'.1 fun x => (h.2 x).trans (h'.2 x).symm

/-- The nodes of edges. -/
def IsNodes (E : Es) (out : List S) : Prop := SS out ∧ ∀ x, x ∈ out ↔ ∃ y, (x, y) ∈ E ∨ (y, x) ∈ E

theorem IsNodes.uniq {E : Es} {a b : List S} (h : IsNodes E a) (h' : IsNodes E b) : a = b := h.1.ext h'.1 fun x => (h.2 x).trans (h'.2 x).symm

/-- Where the edges of a node lead. -/
def IsNext (E : Es) (s : S) (out : List S) : Prop := SS out ∧ ∀ x, x ∈ out ↔ (s, x) ∈ E

theorem IsNext.uniq {E : Es} {s : S} {a b : List S} (h : IsNext E s a) (h' : IsNext E s b) : a = b := h.1.ext h'.1 fun x => (h.2 x).trans (h'.2 x).symm

/-- What can be come to. -/
def IsReach (E : Es) (src out : List S) : Prop := SS out ∧ ∀ x, x ∈ out ↔ ∃ s, s ∈ src ∧ Conn E s x

theorem IsReach.uniq {E : Es} {src a b : List S} (h : IsReach E src a) (h' : IsReach E src b) : a = b := h.1.ext h'.1 fun x => (h.2 x).trans (h'.2 x).symm

/-- The same edges, however often and in whatever order. -/
def Alike (E F : Es) : Prop := ∀ e, e ∈ E ↔ e ∈ F

theorem Alike.conn {E F : Es} (h : Alike E F) {a b : S} : Conn E a b ↔ Conn F a b := ⟨fun c => c.sub fun e he => (h e).1 he, fun c => c.sub fun e he => (h e).2 he⟩
theorem Alike.nodes {E F : Es} (h : Alike E F) {out : List S} (n : IsNodes E out) : IsNodes F out :=
  ⟨n.1, fun x => (n.2 x).trans ⟨fun ⟨y, hy⟩ => ⟨y, hy.imp (h _).1 (h _).1⟩, fun ⟨y, hy⟩ => ⟨y, hy.imp (h _).2 (h _).2⟩⟩⟩

/-- Each can be come to from the other. -/
def Mut (E : Es) (a b : S) : Prop := Conn E a b ∧ Conn E b a

/-- It can be come to from itself, by an edge at least. -/
def Cyc (E : Es) (a : S) : Prop := ∃ b, (a, b) ∈ E ∧ Conn E b a

theorem Mut.cyc {E : Es} {a b : S} (h : Mut E a b) (hne : a ≠ b) : Cyc E a := by
  obtain ⟨⟨n, w⟩, hb⟩ := h
  cases w with
  | nil => exact absurd rfl hne
  | cons h1 h2 => exact ⟨_, h1, Conn.trans ⟨_, h2⟩ hb⟩

theorem Cyc.node {E : Es} {a : S} (h : Cyc E a) : ∃ y, (a, y) ∈ E ∨ (y, a) ∈ E := let ⟨b, hb, _⟩ := h; ⟨b, .inl hb⟩

theorem Mut.mem_cyc {E : Es} {a b : S} (h : Mut E a b) (hc : Cyc E a) : Cyc E b := by
  by_cases e : a = b
  · subst e; exact hc
  · exact (show Mut E b a from ⟨h.2, h.1⟩).cyc (fun e' => e e'.symm)

theorem Mut.refl (E : Es) (a : S) : Mut E a a := ⟨.refl E a, .refl E a⟩
theorem Mut.symm {E : Es} {a b : S} (h : Mut E a b) : Mut E b a := ⟨h.2, h.1⟩
theorem Mut.trans {E : Es} {a b c : S} (h : Mut E a b) (h' : Mut E b c) : Mut E a c := ⟨h.1.trans h'.1, h'.2.trans h.2⟩

/-- One ring: ascending, all that can come to each other. -/
def IsRing (E : Es) (g : List S) : Prop := SS g ∧ ∃ s, Cyc E s ∧ ∀ t, t ∈ g ↔ Mut E s t

def hd (g : List S) : S := g.headD []

/-- The rings, by their first nodes. -/
def IsRings (E : Es) (out : List (List S)) : Prop := out.Pairwise (fun g h => hd g < hd h) ∧ ∀ g, g ∈ out ↔ IsRing E g

theorem IsRings.uniq {E : Es} {a b : List (List S)} (h : IsRings E a) (h' : IsRings E b) : a = b := by
  have nd : ∀ l : List (List S), l.Pairwise (fun g h => hd g < hd h) → l.Nodup := by
    intro l hl
    rw [List.nodup_iff_pairwise_ne]
    exact hl.imp fun {x y} hxy e => by subst e; exact Std.lt_irrefl hxy
  have hp : a.Perm b := (List.perm_ext_iff_of_nodup (nd _ h.1) (nd _ h'.1)).2 fun g => (h.2 g).trans (h'.2 g).symm
  refine hp.eq_of_pairwise ?_ h.1 h'.1
  intro x y _ _ h1 h2
  exact absurd (Std.lt_trans h1 h2) Std.lt_irrefl

theorem IsRing.alike {E F : Es} (h : Alike E F) {g : List S} (r : IsRing E g) : IsRing F g := by
  obtain ⟨h1, s, ⟨b, hb, hc⟩, ht⟩ := r
  exact ⟨h1, s, ⟨b, (h _).1 hb, h.conn.1 hc⟩, fun t => (ht t).trans ⟨fun m => ⟨h.conn.1 m.1, h.conn.1 m.2⟩, fun m => ⟨h.conn.2 m.1, h.conn.2 m.2⟩⟩⟩

theorem Alike.symm {E F : Es} (h : Alike E F) : Alike F E := fun e => (h e).symm

theorem IsRings.alike {E F : Es} (h : Alike E F) {out : List (List S)} (r : IsRings E out) : IsRings F out :=
  ⟨r.1, fun g => (r.2 g).trans ⟨fun x => x.alike h, fun x => x.alike h.symm⟩⟩

theorem IsRing.mem_mut {E : Es} {g : List S} (r : IsRing E g) {a b : S} (ha : a ∈ g) (hb : b ∈ g) : Mut E a b := by
  obtain ⟨_, s, _, ht⟩ := r
  exact ((ht a).1 ha).symm.trans ((ht b).1 hb)

theorem IsRing.ne_nil {E : Es} {g : List S} (r : IsRing E g) : g ≠ [] := by
  obtain ⟨_, s, _, ht⟩ := r
  intro e
  have := (ht s).2 (.refl E s)
  rw [e] at this
  cases this

theorem IsRing.cyc {E : Es} {g : List S} (r : IsRing E g) {a : S} (ha : a ∈ g) : Cyc E a := by
  obtain ⟨_, s, hc, ht⟩ := r
  exact ((ht a).1 ha).mem_cyc hc

theorem IsRing.eq_of_mem {E : Es} {g h : List S} (r : IsRing E g) (q : IsRing E h) {a : S} (ha : a ∈ g) (hb : a ∈ h) : g = h := by
  refine r.1.ext q.1 fun x => ⟨fun hx => ?_, fun hx => ?_⟩
  · obtain ⟨_, s, _, ht⟩ := q
    exact (ht x).2 (((ht a).1 hb).trans (r.mem_mut ha hx))
  · obtain ⟨_, s, _, ht⟩ := r
    exact (ht x).2 (((ht a).1 ha).trans (q.mem_mut hb hx))

/-- It may stand next: whom of those that are left it can come to, can come to it. -/
def Free (E : Es) (left : List S) (s : S) : Prop := ∀ t, t ∈ left → t ≠ s → Conn E s t → Conn E t s

/-- All that are left, in their order: the next is the least that may stand next. -/
inductive Ord (E : Es) : List S → List S → Prop
  | nil : Ord E [] []
  | cons {left out : List S} {s : S} : s ∈ left → Free E left s → (∀ u, u ∈ left → Free E left u → s ≤ u) → Ord E (left.filter (fun x => !(x == s))) out → Ord E left (s :: out)

theorem Ord.uniq {E : Es} {left a b : List S} (h : Ord E left a) (h' : Ord E left b) : a = b := by
  induction h generalizing b with
  | nil => cases h' with
    | nil => rfl
    | cons h1 _ _ _ => cases h1
  | cons h1 h2 h3 _ ih => cases h' with
    | nil => cases h1
    | cons g1 g2 g3 g4 =>
      rename_i s _ out' t
      have e : s = t := Std.le_antisymm (h3 t g1 g2) (g3 s h1 h2)
      subst e
      rw [ih g4]

theorem Ord.mem {E : Es} {left out : List S} (h : Ord E left out) : ∀ x, x ∈ out ↔ x ∈ left := by
  induction h with
  | nil => intro x; rfl
  | @cons _ _ s h1 _ _ _ ih =>
    intro x
    rw [List.mem_cons, ih, List.mem_filter]
    constructor
    · rintro (rfl | ⟨h, _⟩)
      · exact h1
      · exact h
    · intro hx
      by_cases e : x = s
      · exact .inl e
      · exact .inr ⟨hx, by simp [e]⟩

theorem Ord.nodup {E : Es} {left out : List S} (h : Ord E left out) : out.Nodup := by
  induction h with
  | nil => exact List.nodup_nil
  | cons h1 _ _ h4 ih =>
    rw [List.nodup_cons]
    refine ⟨?_, ih⟩
    rw [h4.mem, List.mem_filter]
    simp

theorem Ord.length {E : Es} {left out : List S} (h : Ord E left out) (hn : left.Nodup) : out.length = left.length :=
  ((List.perm_ext_iff_of_nodup h.nodup hn).2 h.mem).length_eq

/-- Each stands behind all that it can come to, but in a ring. -/
theorem Ord.behind {E : Es} {left out : List S} (h : Ord E left out) : out.Pairwise fun a b => Conn E a b → Conn E b a := by
  induction h with
  | nil => exact .nil
  | cons h1 h2 _ h4 ih =>
    rw [List.pairwise_cons]
    refine ⟨?_, ih⟩
    intro t ht hc
    have := (h4.mem t).1 ht
    rw [List.mem_filter] at this
    exact h2 t this.1 (by simpa using this.2) hc

theorem Free.alike {E F : Es} (h : Alike E F) {left : List S} {s : S} (f : Free E left s) : Free F left s :=
  fun t ht hne hc => h.conn.1 (f t ht hne (h.conn.2 hc))

theorem Ord.alike {E F : Es} (h : Alike E F) {left out : List S} (o : Ord E left out) : Ord F left out := by
  induction o with
  | nil => exact .nil
  | cons h1 h2 h3 _ ih => exact .cons h1 (h2.alike h) (fun u hu hf => h3 u hu (hf.alike h.symm)) ih

/-- Among some there is one that may stand next. -/
theorem exists_free (E : Es) (left : List S) (hne : left ≠ []) : ∃ s, s ∈ left ∧ Free E left s := by
  classical
  -- by induction on how many of 'left' it can come to that cannot come to it
  have key : ∀ n s, s ∈ left → (left.filter fun t => decide (Conn E s t ∧ ¬ Conn E t s)).length ≤ n → ∃ s, s ∈ left ∧ Free E left s := by
    intro n
    induction n with
    | zero =>
      intro s hs hl
      refine ⟨s, hs, fun t ht _ hc => ?_⟩
      apply Classical.byContradiction
      intro hn
      have : t ∈ left.filter fun t => decide (Conn E s t ∧ ¬ Conn E t s) := by
        rw [List.mem_filter]; exact ⟨ht, by simp [hc, hn]⟩
      have h0 := List.length_eq_zero_iff.1 (Nat.le_zero.1 hl)
      rw [h0] at this
      cases this
    | succ n ih =>
      intro s hs hl
      by_cases hf : Free E left s
      · exact ⟨s, hs, hf⟩
      · unfold Free at hf
        obtain ⟨t, hf⟩ := Classical.not_forall.1 hf
        obtain ⟨ht, hf⟩ := Classical.not_imp.1 hf
        obtain ⟨hne, hf⟩ := Classical.not_imp.1 hf
        obtain ⟨hc, hn⟩ := Classical.not_imp.1 hf
        refine ih t ht ?_
        have hsub : (left.filter fun u => decide (Conn E t u ∧ ¬ Conn E u t)).length < (left.filter fun u => decide (Conn E s u ∧ ¬ Conn E u s)).length := by
          have hmono : ∀ l : List S, (l.filter fun u => decide (Conn E t u ∧ ¬ Conn E u t)).length ≤ (l.filter fun u => decide (Conn E s u ∧ ¬ Conn E u s)).length ∧
              (t ∈ l → (l.filter fun u => decide (Conn E t u ∧ ¬ Conn E u t)).length < (l.filter fun u => decide (Conn E s u ∧ ¬ Conn E u s)).length) := by
            intro l
            induction l with
            | nil => exact ⟨Nat.le_refl _, fun h => by cases h⟩
            | cons x l ihl =>
              have himp : (Conn E t x ∧ ¬ Conn E x t) → (Conn E s x ∧ ¬ Conn E x s) := by
                rintro ⟨h1, h2⟩
                exact ⟨hc.trans h1, fun h3 => h2 (h3.trans hc)⟩
              refine ⟨?_, ?_⟩
              · by_cases hx : Conn E t x ∧ ¬ Conn E x t
                · simp only [List.filter_cons, hx, himp hx, decide_true, and_self, not_false_eq_true, if_true, List.length_cons]
                  have := ihl.1; omega
                · rw [List.filter_cons, if_neg (by simpa using hx)]
                  have h1 := ihl.1
                  have h2 : (l.filter fun u => decide (Conn E s u ∧ ¬ Conn E u s)).length ≤ ((x :: l).filter fun u => decide (Conn E s u ∧ ¬ Conn E u s)).length := by
                    rw [List.filter_cons]; split <;> simp
                  omega
              · intro hm
                rcases List.mem_cons.1 hm with rfl | hm
                · have hx : ¬ (Conn E t t ∧ ¬ Conn E t t) := fun h => h.2 h.1
                  have hy : Conn E s t ∧ ¬ Conn E t s := ⟨hc, hn⟩
                  rw [List.filter_cons, if_neg (by simp)]
                  rw [List.filter_cons, if_pos (by simpa using hy)]
                  have := ihl.1
                  simp only [List.length_cons]; omega
                · by_cases hx : Conn E t x ∧ ¬ Conn E x t
                  · simp only [List.filter_cons, hx, himp hx, decide_true, and_self, not_false_eq_true, if_true, List.length_cons]
                    have := ihl.2 hm; omega
                  · rw [List.filter_cons, if_neg (by simpa using hx)]
                    have h1 := ihl.2 hm
                    have h2 : (l.filter fun u => decide (Conn E s u ∧ ¬ Conn E u s)).length ≤ ((x :: l).filter fun u => decide (Conn E s u ∧ ¬ Conn E u s)).length := by
                      rw [List.filter_cons]; split <;> simp
                    omega
          exact (hmono left).2 ht
        omega
  obtain ⟨s, hs⟩ := List.exists_mem_of_ne_nil left hne
  exact key _ s hs (Nat.le_refl _)

end Go.Proofs.Ytljfknneijmfoaa
