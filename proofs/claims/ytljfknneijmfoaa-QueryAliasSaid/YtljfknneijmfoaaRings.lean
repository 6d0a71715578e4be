import Init
import Derived.Test.YtljfknneijmfoaaGeo
namespace Go.Proofs.Ytljfknneijmfoaa

/-- The members of a list, ascending, each once. -/
def IsSrt (l out : List S) : Prop := SS out ∧ ∀ x, x ∈ out ↔ x ∈ l

theorem IsSrt.uniq {l a b : List S} (h : IsSrt l a) (h' : IsSrt l b) : a = b := h.1.ext h'.1 fun x => (h.2 x).trans (h'.2 x).symm

/-- The nodes of edges. -/
def IsNodes (E : Es) (out : List S) : Prop := SS out ∧ ∀ x, x ∈ out ↔ ∃ y, (x, y) ∈ E ∨ (y, x) ∈ E

theorem IsNodes.uniq {E : Es} {a b : List S} (h : IsNodes E a) (h' : IsNodes E b) : a = b := h.1.ext h'.1 fun x => (h.2 x).trans (h'.2 x).symm

/-- Where the edges of a node lead. -/
def IsNext (E : Es) (s : S) (out : List S) : Prop := SS out ∧ ∀ x, x ∈ out ↔ (s, x) ∈ E

theorem IsNext.uniq {E : Es} {s : S} {a b : List S} (h : IsNext E s a) (h' : IsNext E s b) : a = b := h.1.ext h'.1 fun x => (h.2 x).trans (h'.2 x).symm

/-- What can be come to. -/
def IsReach (E : Es) (src out : List S) : Prop := SS out ∧ ∀ x, x ∈ out ↔ ∃ s, s ∈ src ∧ Conn E s x

theorem IsReach.uniq {E : Es} {src a b : List S} (h : IsReach E src a) (h' : IsReach E src b) : a = b := h.1.ext h'.1 fun x => (h.2 x).trans (h'.2 x).symm

/-- The same edges, however often and in whatever order. -/
def Alike (E F : Es) : Prop := ∀ e, e ∈ E ↔ e ∈ F

theorem Alike.conn {E F : Es} (h : Alike E F) {a b : S} : Conn E a b ↔ Conn F a b := ⟨fun c => c.sub fun e he => (h e).1 he, fun c => c.sub fun e he => (h e).2 he⟩
theorem Alike.nodes {E F : Es} (h : Alike E F) {out : List S} (n : IsNodes E out) : IsNodes F out :=
  ⟨n.1, fun x => (n.2 x).trans ⟨fun ⟨y, hy⟩ => ⟨y, hy.imp (h _).1 (h _).1⟩, fun ⟨y, hy⟩ => ⟨y, hy.imp (h _).2 (h _).2⟩⟩⟩

/-- Each can be come to from the other. -/
def Mut (E : Es) (a b : S) : Prop := Conn E a b ∧ Conn E b a

/-- It can be come to from itself, by an edge at least. -/
def Cyc (E : Es) (a : S) : Prop := ∃ b, (a, b) ∈ E ∧ Conn E b a

theorem Mut.cyc {E : Es} {a b : S} (h : Mut E a b) (hne : a ≠ b) : Cyc E a := by
  obtain ⟨⟨n, w⟩, hb⟩ := h
  cases w with
  | nil => exact absurd rfl hne
  | cons h1 h2 => exact ⟨_, h1, Conn.trans ⟨_, h2⟩ hb⟩

theorem Cyc.node {E : Es} {a : S} (h : Cyc E a) : ∃ y, (a, y) ∈ E ∨ (y, a) ∈ E := let ⟨b, hb, _⟩ := h; ⟨b, .inl hb⟩

theorem Mut.mem_cyc {E : Es} {a b : S} (h : Mut E a b) (hc : Cyc E a) : Cyc E b := by
  by_cases e : a = b
  · subst e; exact hc
  · exact (show Mut E b a from ⟨h.2, h.1⟩).cyc (fun e' => e e'.symm)

theorem Mut.refl (E : Es) (a : S) : Mut E a a := ⟨.refl E a, .refl E a⟩
theorem Mut.symm {E : Es} {a b : S} (h : Mut E a b) : Mut E b a := ⟨h.2, h.1⟩
theorem Mut.trans {E : Es} {a b c : S} (h : Mut E a b) (h' : Mut E b c) : Mut E a c := ⟨h.1.trans h'.1, h'.2.trans h.2⟩

/-- One ring: ascending, all that can come to each other. -/
def IsRing (E : Es) (g : List S) : Prop := SS g ∧ ∃ s, Cyc E s ∧ ∀ t, t ∈ g ↔ Mut E s t

def hd (g : List S) : S := g.headD []

/-- The rings, by their first nodes. -/
def IsRings (E : Es) (out : List (List S)) : Prop := out.Pairwise (fun g h => hd g < hd h) ∧ ∀ g, g ∈ out ↔ IsRing E g

theorem IsRings.uniq {E : Es} {a b : List (List S)} (h : IsRings E a) (h' : IsRings E b) : a = b := by
  have nd : ∀ l : List (List S), l.Pairwise (fun g h => hd g < hd h) → l.Nodup := by
    intro l hl
    rw [List.nodup_iff_pairwise_ne]
    exact hl.imp fun {x y} hxy e => by subst e; exact Std.lt_irrefl hxy
  have hp : a.Perm b := (List.perm_ext_iff_of_nodup (nd _ h.1) (nd _ h'.1)).2 fun g => (h.2 g).trans (h'.2 g).symm
  refine hp.eq_of_pairwise ?_ h.1 h'.1
  intro x y _ _ h1 h2
  exact absurd (Std.lt_trans h1 h2) Std.lt_irrefl

theorem IsRing.alike {E F : Es} (h : Alike E F) {g : List S} (r : IsRing E g) : IsRing F g := by
  obtain ⟨h1, s, ⟨b, hb, hc⟩, ht⟩ := r
  exact ⟨h1, s, ⟨b, (h _).1 hb, h.conn.1 hc⟩, fun t => (ht t).trans ⟨fun m => ⟨h.conn.1 m.1, h.conn.1 m.2⟩, fun m => ⟨h.conn.2 m.1, h.conn.2 m.2⟩⟩⟩

theorem Alike.symm {E F : Es} (h : Alike E F) : Alike F E := fun e => (h e).symm

theorem IsRings.alike {E F : Es} (h : Alike E F) {out : List (List S)} (r : IsRings E out) : IsRings F out :=
  ⟨r.1, fun g => (r.2 g).trans ⟨fun x => x.alike h, fun x => x.alike h.symm⟩⟩

theorem IsRing.mem_mut {E : Es} {g : List S} (r : IsRing E g) {a b : S} (ha : a ∈ g) (hb : b ∈ g) : Mut E a b := by
  obtain ⟨_, s, _, ht⟩ := r
  exact ((ht a).1 ha).symm.trans ((ht b).1 hb)

theorem IsRing.ne_nil {E : Es} {g : List S} (r : IsRing E g) : g ≠ [] := by
  obtain ⟨_, s, _, ht⟩ := r
  intro e
  have := (ht s).2 (.refl E s)
  rw [e] at this
  cases this

theorem IsRing.cyc {E : Es} {g : List S} (r : IsRing E g) {a : S} (ha : a ∈ g) : Cyc E a := by
  obtain ⟨_, s, hc, ht⟩ := r
  exact ((ht a).1 ha).mem_cyc hc

theorem IsRing.eq_of_mem {E : Es} {g h : List S} (r : IsRing E g) (q : IsRing E h) {a : S} (ha : a ∈ g) (hb : a ∈ h) : g = h := by
  refine r.1.ext q.1 fun x => ⟨fun hx => ?_, fun hx => ?_⟩
  · obtain ⟨_, s, _, ht⟩ := q
    exact (ht x).2 (((ht a).1 hb).trans (r.mem_mut ha hx))
  · obtain ⟨_, s, _, ht⟩ := r
    exact (ht x).2 (((ht a).1 ha).trans (q.mem_mut hb hx))

/-- It may stand next: whom of those that are left it can come to, can come to it. -/
def Free (E : Es) (left : List S) (s : S) : Prop := ∀ t, t ∈ left → t ≠ s → Conn E s t → Conn E t s

/-- All that are left, in their order: the next is the least that may stand next. -/
inductive Ord (E : Es) : List S → List S → Prop
  | nil : Ord E [] []
  | cons {left out : List S} {s : S} : s ∈ left → Free E left s → (∀ u, u ∈ left → Free E left u → s ≤ u) → Ord E (left.filter (fun x => !(x == s))) out → Ord E left (s :: out)

theorem Ord.uniq {E : Es} {left a b : List S} (h : Ord E left a) (h' : Ord E left b) : a = b := by
  induction h generalizing b with
  | nil => cases h' with
    | nil => rfl
    | cons h1 _ _ _ => cases h1
  | cons h1 h2 h3 _ ih => cases h' with
    | nil => cases h1
    | cons g1 g2 g3 g4 =>
      rename_i s _ out' t
      have e : s = t := Std.le_antisymm (h3 t g1 g2) (g3 s h1 h2)
      subst e
      rw [ih g4]

theorem Ord.mem {E : Es} {left out : List S} (h : Ord E left out) : ∀ x, x ∈ out ↔ x ∈ left := by
  induction h with
  | nil => intro x; rfl
  | @cons _ _ s h1 _ _ _ ih =>
    intro x
    rw [List.mem_cons, ih, List.mem_filter]
    constructor
    · rintro (rfl | ⟨h, _⟩)
      · exact h1
      · exact h
    · intro hx
      by_cases e : x = s
      · exact .inl e
      · exact .inr ⟨hx, by simp [e]⟩

theorem Ord.nodup {E : Es} {left out : List S} (h : Ord E left out) : out.Nodup := by
  induction h with
  | nil => exact List.nodup_nil
  | cons h1 _ _ h4 ih =>
    rw [List.nodup_cons]
    refine ⟨?_, ih⟩
    rw [h4.mem, List.mem_filter]
    simp

theorem Ord.length {E : Es} {left out : List S} (h : Ord E left out) (hn : left.Nodup) : out.length = left.length :=
  ((List.perm_ext_iff_of_nodup h.nodup hn).2 h.mem).length_eq

/-- Each stands behind all that it can come to, but in a ring. -/
theorem Ord.behind {E : Es} {left out : List S} (h : Ord E left out) : out.Pairwise fun a b => Conn E a b → Conn E b a := by
  induction h with
  | nil => exact .nil
  | cons h1 h2 _ h4 ih =>
    rw [List.pairwise_cons]
    refine ⟨?_, ih⟩
    intro t ht hc
    have := (h4.mem t).1 ht
    rw [List.mem_filter] at this
    exact h2 t this.1 (by simpa using this.2) hc

theorem Free.alike {E F : Es} (h : Alike E F) {left : List S} {s : S} (f : Free E left s) : Free F left s :=
  fun t ht hne hc => h.conn.1 (f t ht hne (h.conn.2 hc))

theorem Ord.alike {E F : Es} (h : Alike E F) {left out : List S} (o : Ord E left out) : Ord F left out := by
  induction o with
  | nil => exact .nil
  | cons h1 h2 h3 _ ih => exact .cons h1 (h2.alike h) (fun u hu hf => h3 u hu (hf.alike h.symm)) ih

/-- Among some there is one that may stand next. -/
theorem exists_free (E : Es) (left : List S) (hne : left ≠ []) : ∃ s, s ∈ left ∧ Free E left s := by
  classical
  -- by induction on how many of 'left' it can come to that cannot come to it
  have key : ∀ n s, s ∈ left → (left.filter fun t => decide (Conn E s t ∧ ¬ Conn E t s)).length ≤ n → ∃ s, s ∈ left ∧ Free E left s := by
    intro n
    induction n with
    | zero =>
      intro s hs hl
      refine ⟨s, hs, fun t ht _ hc => ?_⟩
      apply Classical.byContradiction
      intro hn
      have : t ∈ left.filter fun t => decide (Conn E s t ∧ ¬ Conn E t s) := by
        rw [List.mem_filter]; exact ⟨ht, by simp [hc, hn]⟩
      have h0 := List.length_eq_zero_iff.1 (Nat.le_zero.1 hl)
      rw [h0] at this
      cases this
    | succ n ih =>
      intro s hs hl
      by_cases hf : Free E left s
      · exact ⟨s, hs, hf⟩
      · unfold Free at hf
        obtain ⟨t, hf⟩ := Classical.not_forall.1 hf
        obtain ⟨ht, hf⟩ := Classical.not_imp.1 hf
        obtain ⟨hne, hf⟩ := Classical.not_imp.1 hf
        obtain ⟨hc, hn⟩ := Classical.not_imp.1 hf
        refine ih t ht ?_
        have hsub : (left.filter fun u => decide (Conn E t u ∧ ¬ Conn E u t)).length < (left.filter fun u => decide (Conn E s u ∧ ¬ Conn E u s)).length := by
          have hmono : ∀ l : List S, (l.filter fun u => decide (Conn E t u ∧ ¬ Conn E u t)).length ≤ (l.filter fun u => decide (Conn E s u ∧ ¬ Conn E u s)).length ∧
              (t ∈ l → (l.filter fun u => decide (Conn E t u ∧ ¬ Conn E u t)).length < (l.filter fun u => decide (Conn E s u ∧ ¬ Conn E u s)).length) := by
            intro l
            induction l with
            | nil => exact ⟨Nat.le_refl _, fun h => by cases h⟩
            | cons x l ihl =>
              have himp : (Conn E t x ∧ ¬ Conn E x t) → (Conn E s x ∧ ¬ Conn E x s) := by
                rintro ⟨h1, h2⟩
                exact ⟨hc.trans h1, fun h3 => h2 (h3.trans hc)⟩
              refine ⟨?_, ?_⟩
              · by_cases hx : Conn E t x ∧ ¬ Conn E x t
                · simp only [List.filter_cons, hx, himp hx, decide_true, and_self, not_false_eq_true, if_true, List.length_cons]
                  have := ihl.1; omega
                · rw [List.filter_cons, if_neg (by simpa using hx)]
                  have h1 := ihl.1
                  have h2 : (l.filter fun u => decide (Conn E s u ∧ ¬ Conn E u s)).length ≤ ((x :: l).filter fun u => decide (Conn E s u ∧ ¬ Conn E u s)).length := by
                    rw [List.filter_cons]; split <;> simp
                  omega
              · intro hm
                rcases List.mem_cons.1 hm with rfl | hm
                · have hx : ¬ (Conn E t t ∧ ¬ Conn E t t) := fun h => h.2 h.1
                  have hy : Conn E s t ∧ ¬ Conn E t s := ⟨hc, hn⟩
                  rw [List.filter_cons, if_neg (by simp)]
                  rw [List.filter_cons, if_pos (by simpa using hy)]
                  have := ihl.1
                  simp only [List.length_cons]; omega
                · by_cases hx : Conn E t x ∧ ¬ Conn E x t
                  · simp only [List.filter_cons, hx, himp hx, decide_true, and_self, not_false_eq_true, if_true, List.length_cons]
                    have := ihl.2 hm; omega
                  · rw [List.filter_cons, if_neg (by simpa using hx)]
                    have h1 := ihl.2 hm
                    have h2 : (l.filter fun u => decide (Conn E s u ∧ ¬ Conn E u s)).length ≤ ((x :: l).filter fun u => decide (Conn E s u ∧ ¬ Conn E u s)).length := by
                      rw [List.filter_cons]; split <;> simp
                    omega
          exact (hmono left).2 ht
        omega
  obtain ⟨s, hs⟩ := List.exists_mem_of_ne_nil left hne
  exact key _ s hs (Nat.le_refl _)

end Go.Proofs.Ytljfknneijmfoaa
