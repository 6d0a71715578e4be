import Derived.Test.YtljfknneijmfoaaFar
import Derived.Test.YtljfknneijmfoaaDot
namespace Go.Proofs.Ytljfknneijmfoaa
open Go.RowKit Go.Maps Go.WideMaps Go.Lib

/-- The order of edges, by bytes. -/
def PL (a b : S × S) : Prop := a.1 < b.1 ∨ (a.1 = b.1 ∧ a.2 < b.2)

theorem PL.irrefl {a : S × S} (h : PL a a) : False := by
  rcases h with h | ⟨_, h⟩
  · exact Std.lt_irrefl h
  · exact Std.lt_irrefl h

theorem PL.trans {a b c : S × S} (h : PL a b) (h' : PL b c) : PL a c := by
  rcases h with h | ⟨h1, h2⟩
  · rcases h' with h' | ⟨h1', _⟩
    · exact .inl (Std.lt_trans h h')
    · exact .inl (by rw [← h1']; exact h)
  · rcases h' with h' | ⟨h1', h2'⟩
    · exact .inl (by rw [h1]; exact h')
    · exact .inr ⟨h1.trans h1', Std.lt_trans h2 h2'⟩

/-- The edges, each once, by bytes. -/
def IsPairs (E : Es) (l : List (S × S)) : Prop := l.Pairwise PL ∧ ∀ e, e ∈ l ↔ e ∈ E

theorem IsPairs.uniq {E : Es} {a b : List (S × S)} (ha : IsPairs E a) (hb : IsPairs E b) : a = b := by
  have na : a.Nodup := by rw [List.nodup_iff_pairwise_ne]; exact ha.1.imp fun {x y} h e => by subst e; exact h.irrefl
  have nb : b.Nodup := by rw [List.nodup_iff_pairwise_ne]; exact hb.1.imp fun {x y} h e => by subst e; exact h.irrefl
  have hp : a.Perm b := (List.perm_ext_iff_of_nodup na nb).2 fun x => (ha.2 x).trans (hb.2 x).symm
  exact hp.eq_of_pairwise (fun x y _ _ h1 h2 => absurd (h1.trans h2) PL.irrefl) ha.1 hb.1

theorem IsPairs.alike {E F : Es} (h : Alike E F) {l : List (S × S)} (p : IsPairs E l) : IsPairs F l := ⟨p.1, fun e => (p.2 e).trans (h e)⟩

/-- One line of the text. -/
def lineB (s t : S) : S := [34] ++ s ++ [34, 32, 45, 62, 32, 34] ++ t ++ [34, 59, 10]

def headB : S := [100, 105, 103, 114, 97, 112, 104, 32, 123, 10]
def footB : S := [125, 10]

/-- The text of a graph. -/
def IsDot (E : Es) (x : S) : Prop := ∃ l, IsPairs E l ∧ x = headB ++ (l.flatMap fun e => lineB e.1 e.2) ++ footB

theorem IsDot.uniq {E : Es} {a b : S} (ha : IsDot E a) (hb : IsDot E b) : a = b := by
  obtain ⟨l, h1, rfl⟩ := ha
  obtain ⟨m, h2, rfl⟩ := hb
  rw [h1.uniq h2]

theorem IsDot.alike {E F : Es} (h : Alike E F) {x : S} (d : IsDot E x) : IsDot F x := let ⟨l, h1, h2⟩ := d; ⟨l, h1.alike h, h2⟩

/-- By nodes, and of each by where it leads. -/
theorem dot_by_nodes {E : Es} {xs : List S} {nx : S → List S} (hX : IsNodes E xs) (hn : ∀ s, IsNext E s (nx s)) :
    IsDot E (headB ++ (xs.flatMap fun s => (nx s).flatMap (lineB s)) ++ footB) := by
  refine ⟨xs.flatMap fun s => (nx s).map fun t => (s, t), ⟨?_, fun e => ?_⟩, ?_⟩
  · rw [List.pairwise_flatMap]
    refine ⟨fun s _ => ?_, hX.1.imp fun {a b} hab x hx y hy => ?_⟩
    · rw [List.pairwise_map]
      exact (hn s).1.imp fun {a b} hab => .inr ⟨rfl, hab⟩
    · obtain ⟨_, _, rfl⟩ := List.mem_map.1 hx
      obtain ⟨_, _, rfl⟩ := List.mem_map.1 hy
      exact .inl hab
  · rw [List.mem_flatMap]
    constructor
    · rintro ⟨s, _, h⟩
      obtain ⟨t, ht, rfl⟩ := List.mem_map.1 h
      exact ((hn s).2 t).1 ht
    · intro he
      exact ⟨e.1, (hX.2 e.1).2 ⟨e.2, .inl he⟩, List.mem_map.2 ⟨e.2, ((hn e.1).2 e.2).2 he, rfl⟩⟩
  · congr 2
    rw [List.flatMap_assoc]
    congr 1
    funext s
    rw [List.flatMap_map]

theorem B_append' (a b : ByteArray) : B (a ++ b) = B a ++ B b := by
  unfold B
  simp [ByteArray.data_append]

theorem own_others {w w' : World} {b : Nat} (hO : Lib.OthersKept 5 (some b) w w') (hb : ∃ c fz, w.heap[b]? = some (.cells c 108 fz)) {base : Nat} {v : Value} {n : Nat} {ys : List Value} (h : w.ownsRow base 9 1 v n ys) : w'.ownsRow base 9 1 v n ys := by
  obtain ⟨cb, fb, hb⟩ := hb
  refine ⟨h.1, h.2.imp id ?_⟩
  rintro ⟨g, cap, cur, h1, h2, h3, h4⟩
  refine ⟨g, cap, cur, h1, h2, hO g _ h3 (fun e => ?_) (fun c fz e => by injection e with _ e _; cases e), h4⟩
  have e := Option.some.inj e
  subst e
  rw [hb] at h3
  injection h3 with h3
  injection h3 with _ h3 _
  cases h3

theorem hmap_others {w w' : World} {b bx n : Nat} {f : S → Option Value} (hO : Lib.OthersKept 5 (some b) w w') (hb : ∃ c fz, w.heap[b]? = some (.cells c 108 fz)) (h : hmap w bx n f) : hmap w' bx n f := by
  obtain ⟨cb, fb, hb⟩ := hb
  refine h.block ?_
  obtain ⟨D, ⟨es, clock, h1, _⟩, _⟩ := h
  rw [h1]
  refine hO bx _ h1 (fun e => ?_) (fun c fz e => by cases e)
  have e := Option.some.inj e
  subst e
  rw [hb] at h1
  cases h1

theorem line_bytes (s t : S) : B (((((⟨#[34]⟩ : ByteArray) ++ U s) ++ (⟨#[34, 32, 45, 62, 32, 34]⟩ : ByteArray)) ++ U t) ++ (⟨#[34, 59, 10]⟩ : ByteArray)) = lineB s t := by
  rw [B_append', B_append', B_append', B_append']
  rfl

theorem builder_block {T e : TypeId} {B b : Nat} {bs : List Value} {w : World} (h : Lib.IsBuilderF T e B b bs w) : ∃ c fz, w.heap[b]? = some (.cells c T fz) := by
  rcases h with h | h
  · obtain ⟨_, v, h, _⟩ := h
    exact ⟨_, _, h⟩
  · obtain ⟨_, v, h, _⟩ := h
    exact ⟨_, _, h⟩

/-- How long the text may be so far: so many rows of so many lines of so many bytes. -/
def roomG (a b c k j : Nat) : Nat := (k * a + j) * b + c
theorem roomG_next {a b c k j n m : Nat} (h : n ≤ roomG a b c k j) (hm : m ≤ b) : n + m ≤ roomG a b c k (j + 1) := by
  unfold roomG at *
  rw [← Nat.add_assoc, Nat.add_mul (k * a + j) 1 b, Nat.one_mul]
  omega
theorem roomG_row {a b c k j n : Nat} (h : n ≤ roomG a b c k j) (hj : j ≤ a) : n ≤ roomG a b c (k + 1) 0 := by
  unfold roomG at *
  refine Nat.le_trans h (Nat.add_le_add_right (Nat.mul_le_mul_right b ?_) c)
  rw [Nat.add_mul, Nat.one_mul]
  omega
theorem roomG_le {a b c k j n q m : Nat} (h : n ≤ roomG a b c k j) (hq : k * a + j ≤ q) (hm : q * b + c ≤ m) : n ≤ m := by
  unfold roomG at h
  exact Nat.le_trans h (Nat.le_trans (Nat.add_le_add_right (Nat.mul_le_mul_right b hq) c) hm)
def room (k j : Nat) : Nat := roomG 1000 2100 20 k j
theorem room_next {k j n m : Nat} (h : n ≤ room k j) (hm : m ≤ 2100) : n + m ≤ room k (j + 1) := roomG_next h hm
theorem room_row {k j n : Nat} (h : n ≤ room k j) (hj : j ≤ 1000) : n ≤ room (k + 1) 0 := roomG_row h hj
theorem room_le {k j n : Nat} (h : n ≤ room k j) (hk : k ≤ 200000) (hj : j ≤ 1000) : n ≤ 1000000000000 := roomG_le (q := 200001000) h (by omega) (by decide)

theorem lineB_len (s t : S) : (lineB s t).length = s.length + t.length + 10 := by simp [lineB]; omega
end Go.Proofs.Ytljfknneijmfoaa
