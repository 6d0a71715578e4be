import Init
namespace Go.Proofs.Ytljfknneijmfoaa

abbrev S := List UInt8
abbrev Es := List (S × S)

/-- Strictly ascending by bytes. -/
def SS (l : List S) : Prop := l.Pairwise (· < ·)

theorem SS.nodup {l : List S} (h : SS l) : l.Nodup := by
  rw [List.nodup_iff_pairwise_ne]
  exact h.imp fun {a b} hab e => by subst e; exact Std.lt_irrefl hab

theorem SS.ext {a b : List S} (ha : SS a) (hb : SS b) (h : ∀ x, x ∈ a ↔ x ∈ b) : a = b := by
  have hp : a.Perm b := (List.perm_ext_iff_of_nodup ha.nodup hb.nodup).2 h
  refine hp.eq_of_pairwise ?_ ha hb
  intro x y _ _ h1 h2
  exact absurd (Std.lt_trans h1 h2) Std.lt_irrefl

/-- A walk of so many edges. -/
inductive Walk (E : Es) : Nat → S → S → Prop
  | nil (a : S) : Walk E 0 a a
  | cons {n : Nat} {a b c : S} : (a, b) ∈ E → Walk E n b c → Walk E (n + 1) a c

theorem Walk.snoc {E : Es} {n : Nat} {a b c : S} (h : Walk E n a b) (he : (b, c) ∈ E) : Walk E (n + 1) a c := by
  induction h with
  | nil a => exact .cons he (.nil c)
  | cons h1 _ ih => exact .cons h1 (ih he)

theorem Walk.trans {E : Es} {n m : Nat} {a b c : S} (h : Walk E n a b) (h' : Walk E m b c) : Walk E (n + m) a c := by
  induction h with
  | nil a => simpa using h'
  | cons h1 _ ih => rw [Nat.add_right_comm]; exact .cons h1 (ih h')

theorem Walk.unsnoc {E : Es} {n : Nat} {a c : S} (h : Walk E (n + 1) a c) : ∃ b, Walk E n a b ∧ (b, c) ∈ E := by
  induction n generalizing a with
  | zero => cases h with
    | cons h1 h2 => cases h2; exact ⟨a, .nil a, h1⟩
  | succ n ih => cases h with
    | cons h1 h2 => obtain ⟨b, hb, he⟩ := ih h2; exact ⟨b, .cons h1 hb, he⟩

theorem Walk.sub {E F : Es} (h : ∀ e, e ∈ E → e ∈ F) {n : Nat} {a b : S} (w : Walk E n a b) : Walk F n a b := by
  induction w with
  | nil a => exact .nil a
  | cons h1 _ ih => exact .cons (h _ h1) ih

/-- The edges the other way round. -/
def rev (E : Es) : Es := E.map fun e => (e.2, e.1)

theorem mem_rev {E : Es} {a b : S} : (a, b) ∈ rev E ↔ (b, a) ∈ E := by
  unfold rev
  rw [List.mem_map]
  constructor
  · rintro ⟨⟨x, y⟩, h, e⟩; cases e; exact h
  · intro h; exact ⟨(b, a), h, rfl⟩

theorem Walk.rev {E : Es} {n : Nat} {a b : S} (w : Walk E n a b) : Walk (rev E) n b a := by
  induction w with
  | nil a => exact .nil a
  | cons h1 _ ih => exact ih.snoc (mem_rev.2 h1)

theorem Walk.unrev {E : Es} {n : Nat} {a b : S} (w : Walk (Ytljfknneijmfoaa.rev E) n a b) : Walk E n b a := by
  have := w.rev
  refine this.sub ?_
  intro e he
  simpa [Ytljfknneijmfoaa.rev] using he

/-- It can be come to. -/
def Conn (E : Es) (a b : S) : Prop := ∃ n, Walk E n a b

theorem Conn.refl (E : Es) (a : S) : Conn E a a := ⟨0, .nil a⟩
theorem Conn.trans {E : Es} {a b c : S} (h : Conn E a b) (h' : Conn E b c) : Conn E a c :=
  let ⟨_, x⟩ := h; let ⟨_, y⟩ := h'; ⟨_, x.trans y⟩
theorem Conn.edge {E : Es} {a b : S} (h : (a, b) ∈ E) : Conn E a b := ⟨1, .cons h (.nil b)⟩
theorem Conn.sub {E F : Es} (h : ∀ e, e ∈ E → e ∈ F) {a b : S} (w : Conn E a b) : Conn F a b := let ⟨n, x⟩ := w; ⟨n, x.sub h⟩

/-- 'd' is how far 'x' is from the nearest of 'src'. -/
def Dist (E : Es) (src : List S) (x : S) (d : Nat) : Prop :=
  (∃ s, s ∈ src ∧ Walk E d s x) ∧ ∀ m s, s ∈ src → Walk E m s x → d ≤ m

theorem Dist.uniq {E : Es} {src : List S} {x : S} {d e : Nat} (h : Dist E src x d) (h' : Dist E src x e) : d = e := by
  obtain ⟨⟨s, hs, w⟩, hm⟩ := h
  obtain ⟨⟨t, ht, v⟩, hn⟩ := h'
  have := hm _ _ ht v
  have := hn _ _ hs w
  omega

/-! ### Breadth first -/

/-- What stands between two rounds: 'out' is what has been met and how far it is; 'todo' waits;
of 's' the followers 'rest' are still to be looked at. -/
structure Bfs (E : Es) (src : List S) (out : S → Option Nat) (todo : List S) (s : S) (rest : List S) : Prop where
  sound : ∀ x d, out x = some d → ∃ a, a ∈ src ∧ Walk E d a x
  start : ∀ x, x ∈ src → out x = some 0
  met : ∀ x, x ∈ todo → (out x).isSome
  once : todo.Nodup
  cur : ∃ ds, out s = some ds ∧ s ∉ todo ∧ (∀ x d, out x = some d → d ≤ ds + 1) ∧ (∀ x, x ∈ todo → ∀ d, out x = some d → ds ≤ d)
  done : ∀ x, (out x).isSome → x ∉ todo → ∀ y, (x, y) ∈ E → (x = s ∧ y ∈ rest) ∨ ∃ d e, out x = some d ∧ out y = some e ∧ e ≤ d + 1
  asc : todo.Pairwise fun x y => ∀ d e, out x = some d → out y = some e → d ≤ e

/-- Ahead of a round. -/
structure Bfs0 (E : Es) (src : List S) (out : S → Option Nat) (todo : List S) : Prop where
  sound : ∀ x d, out x = some d → ∃ a, a ∈ src ∧ Walk E d a x
  start : ∀ x, x ∈ src → out x = some 0
  met : ∀ x, x ∈ todo → (out x).isSome
  once : todo.Nodup
  near : ∀ s, s ∈ todo.head? → ∀ ds, out s = some ds → ∀ x d, out x = some d → d ≤ ds + 1
  done : ∀ x, (out x).isSome → x ∉ todo → ∀ y, (x, y) ∈ E → ∃ d e, out x = some d ∧ out y = some e ∧ e ≤ d + 1
  asc : todo.Pairwise fun x y => ∀ d e, out x = some d → out y = some e → d ≤ e

theorem Bfs0.init (E : Es) (src todo : List S) (out : S → Option Nat) (h1 : ∀ x, x ∈ src → out x = some 0) (h2 : ∀ x, x ∉ src → out x = none)
    (h3 : ∀ x, x ∈ todo ↔ x ∈ src) (h4 : todo.Nodup) : Bfs0 E src out todo := by
  have h0 : ∀ x d, out x = some d → x ∈ src ∧ d = 0 := by
    intro x d h
    by_cases hx : x ∈ src
    · rw [h1 x hx] at h; cases h; exact ⟨hx, rfl⟩
    · rw [h2 x hx] at h; cases h
  refine ⟨?_, h1, ?_, h4, ?_, ?_, ?_⟩
  · intro x d h; obtain ⟨hx, rfl⟩ := h0 x d h; exact ⟨x, hx, .nil x⟩
  · intro x hx; rw [h1 x ((h3 x).1 hx)]; rfl
  · intro s _ ds _ x d hx; obtain ⟨_, rfl⟩ := h0 x d hx; omega
  · intro x hx hn; obtain ⟨d, hd⟩ := Option.isSome_iff_exists.1 hx; exact absurd ((h3 x).2 (h0 x d hd).1) hn
  · refine List.Pairwise.imp_of_mem ?_ (List.nodup_iff_pairwise_ne.1 h4)
    intro a b _ _ _ d e hd he
    obtain ⟨_, rfl⟩ := h0 _ _ hd; omega

theorem Bfs0.pop {E : Es} {src : List S} {out : S → Option Nat} {s : S} {todo rest : List S} (h : Bfs0 E src out (s :: todo)) (hr : ∀ y, y ∈ rest ↔ (s, y) ∈ E) :
    Bfs E src out todo s rest := by
  obtain ⟨ds, hds⟩ := Option.isSome_iff_exists.1 (h.met s (by simp))
  have hs : s ∉ todo := (List.nodup_cons.1 h.once).1
  refine ⟨h.sound, h.start, fun x hx => h.met x (by simp [hx]), (List.nodup_cons.1 h.once).2, ⟨ds, hds, hs, ?_, ?_⟩, ?_, ?_⟩
  · exact h.near s (by simp) ds hds
  · intro x hx d hd; exact (List.pairwise_cons.1 h.asc).1 x hx ds d hds hd
  · intro x hx hn y hy
    by_cases e : x = s
    · subst e; exact .inl ⟨rfl, (hr y).2 hy⟩
    · exact .inr (h.done x hx (by simp [e, hn]) y hy)
  · exact (List.pairwise_cons.1 h.asc).2

theorem Bfs.old {E : Es} {src : List S} {out : S → Option Nat} {s t : S} {todo rest : List S} (h : Bfs E src out todo s (t :: rest)) (ht : (out t).isSome) :
    Bfs E src out todo s rest := by
  refine ⟨h.sound, h.start, h.met, h.once, h.cur, ?_, h.asc⟩
  intro x hx hn y hy
  rcases h.done x hx hn y hy with ⟨rfl, hm⟩ | h'
  · rcases List.mem_cons.1 hm with rfl | hm
    · obtain ⟨ds, hds, _, hle, _⟩ := h.cur
      obtain ⟨e, he⟩ := Option.isSome_iff_exists.1 ht
      exact .inr ⟨ds, e, hds, he, hle _ _ he⟩
    · exact .inl ⟨rfl, hm⟩
  · exact .inr h'

theorem Bfs.fresh {E : Es} {src : List S} {out : S → Option Nat} {s t : S} {todo rest : List S} {ds : Nat} (h : Bfs E src out todo s (t :: rest)) (hE : (s, t) ∈ E) (ht : out t = none) (hds : out s = some ds) :
    Bfs E src (fun x => if x = t then some (ds + 1) else out x) (todo ++ [t]) s rest := by
  obtain ⟨ds', hds', hs, hle, hge⟩ := h.cur
  obtain rfl : ds' = ds := by rw [hds'] at hds; exact Option.some.inj hds
  have hst : s ≠ t := by rintro rfl; rw [ht] at hds; cases hds
  have htt : t ∉ todo := by intro hm; have := h.met t hm; rw [ht] at this; cases this
  have hold : ∀ x, (out x).isSome → x ≠ t := by rintro x hx rfl; rw [ht] at hx; cases hx
  refine ⟨?_, ?_, ?_, ?_, ⟨ds', by simp [hst, hds'], by simp [hs, hst], ?_, ?_⟩, ?_, ?_⟩
  · intro x d hx
    by_cases e : x = t
    · subst e; simp at hx; subst hx
      obtain ⟨a, ha, w⟩ := h.sound s ds' hds'
      exact ⟨a, ha, w.snoc hE⟩
    · simp [e] at hx; exact h.sound x d hx
  · intro x hx
    have := h.start x hx
    simp [hold x (by rw [this]; rfl), this]
  · intro x hx
    by_cases e : x = t
    · simp [e]
    · simp [e] at hx ⊢; exact h.met x hx
  · rw [List.nodup_append]
    refine ⟨h.once, by simp, ?_⟩
    intro a ha b hb
    simp at hb
    subst hb
    rintro rfl
    exact htt ha
  · intro x d hx
    by_cases e : x = t
    · simp [e] at hx; omega
    · simp [e] at hx; exact hle x d hx
  · intro x hx d hd
    by_cases e : x = t
    · simp [e] at hd; omega
    · simp [e] at hx hd; exact hge x hx d hd
  · intro x hx hn y hy
    have hxt : x ≠ t := by rintro rfl; simp at hn
    have hx' : (out x).isSome := by simpa [hxt] using hx
    rcases h.done x hx' (by intro hm; exact hn (by simp [hm])) y hy with ⟨rfl, hm⟩ | ⟨d, e, hd, he, hl⟩
    · rcases List.mem_cons.1 hm with rfl | hm
      · exact .inr ⟨ds', ds' + 1, by simp [hst, hds'], by simp, by omega⟩
      · exact .inl ⟨rfl, hm⟩
    · have hy' : y ≠ t := hold y (by rw [he]; rfl)
      exact .inr ⟨d, e, by simp [hxt, hd], by simp [hy', he], hl⟩
  · rw [List.pairwise_append]
    refine ⟨?_, by simp, ?_⟩
    · refine List.Pairwise.imp_of_mem ?_ h.asc
      intro a b ha hb hab d e hd he
      have ha' := hold a (h.met a ha)
      have hb' := hold b (h.met b hb)
      simp [ha'] at hd
      simp [hb'] at he
      exact hab d e hd he
    · intro a ha b hb d e hd he
      simp at hb
      subst hb
      have ha' := hold a (h.met a ha)
      simp [ha'] at hd
      simp at he
      have := hle a d hd
      omega

theorem Bfs.next {E : Es} {src : List S} {out : S → Option Nat} {s : S} {todo : List S} (h : Bfs E src out todo s []) : Bfs0 E src out todo := by
  obtain ⟨ds, hds, hs, hle, hge⟩ := h.cur
  refine ⟨h.sound, h.start, h.met, h.once, ?_, ?_, h.asc⟩
  · intro x hx dx hdx y d hy
    have hx' : x ∈ todo := by cases todo <;> simp_all
    have := hge x hx' dx hdx
    have := hle y d hy
    omega
  · intro x hx hn y hy
    rcases h.done x hx hn y hy with ⟨_, hm⟩ | h'
    · cases hm
    · exact h'

theorem Bfs0.done_all {E : Es} {src : List S} {out : S → Option Nat} (h : Bfs0 E src out []) (x : S) (d : Nat) : out x = some d ↔ Dist E src x d := by
  have key : ∀ m s x, s ∈ src → Walk E m s x → ∃ d, out x = some d ∧ d ≤ m := by
    intro m
    induction m with
    | zero => intro s x hs w; cases w; exact ⟨0, h.start _ hs, Nat.le_refl _⟩
    | succ m ih =>
      intro s x hs w
      obtain ⟨b, hb, he⟩ := w.unsnoc
      obtain ⟨d, hd, hl⟩ := ih s b hs hb
      obtain ⟨d', e, hd', he', hl'⟩ := h.done b (by rw [hd]; rfl) (by simp) x he
      rw [hd] at hd'; cases hd'
      exact ⟨e, he', by omega⟩
  constructor
  · intro hx
    refine ⟨h.sound x d hx, ?_⟩
    intro m s hs w
    obtain ⟨d', hd', hl⟩ := key m s x hs w
    rw [hx] at hd'; cases hd'
    exact hl
  · rintro ⟨⟨s, hs, w⟩, hm⟩
    obtain ⟨d', hd', hl⟩ := key d s x hs w
    obtain ⟨a, ha, w'⟩ := h.sound x d' hd'
    have := hm d' a ha w'
    rw [hd']
    congr 1
    omega
end Go.Proofs.Ytljfknneijmfoaa
