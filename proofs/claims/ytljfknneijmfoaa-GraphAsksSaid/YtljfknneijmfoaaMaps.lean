import Derived.Test.YtljfknneijmfoaaProg
import Derived.Test.YtljfknneijmfoaaPlain
import Derived.Maps.OwnOps
import Derived.Maps.OwnSet
import Derived.Maps.Views
import Derived.Sort.KeysCollected
import Derived.WalkKit
import Derived.Sort.EncStr
import Derived.Laws.OwnMore
import Derived.Test.YtljfknneijmfoaaShelf
import Derived.Sort.OwnSorted
import Derived.Lib.OwnBridge
import Derived.Lib.SlicesCompact
namespace Go.Proofs.Ytljfknneijmfoaa
open Go.RowKit Go.Maps Go.WideMaps


/-- Bytes as a string of the machine. -/
def U (l : S) : ByteArray := ⟨l.toArray⟩
/-- .. and back. -/
def B (s : ByteArray) : S := s.data.toList
theorem B_U (l : S) : B (U l) = l := rfl
theorem U_B (s : ByteArray) : U (B s) = s := by cases s; simp [U, B]
theorem B_inj {a b : ByteArray} (h : B a = B b) : a = b := by rw [← U_B a, ← U_B b, h]
theorem size_B (s : ByteArray) : (B s).length = s.size := by cases s; simp [B, ByteArray.size]
theorem size_U (l : S) : (U l).size = l.length := by simp [U, ByteArray.size]

/-- An element is what it is. -/
def Rh : Value → Option (DataW Value × List MemPlace) := fun v => some (.held v, [])

/-- Block b is a map of strings of at most n entries, which holds f. -/
def hmap (w : World) (b n : Nat) (f : S → Option Value) : Prop :=
  ∃ D : DataW Value, w.ownsMap Try.prog 9 Rh b n D ∧ ∀ s, has D (.string s) = (f s).isSome ∧ ∀ z, D.atKey (.string s) (.held z) = .held ((f s).getD z)

theorem law9 : Keyed Try.prog 9 := string_keyed Try.underlying9

theorem hmap_made (w : World) : hmap (w.alloc (.map #[] 0)) w.heap.size 0 (fun _ => none) :=
  ⟨.map [], World.ownsMap_made _ _ _ _, fun _ => ⟨rfl, fun _ => rfl⟩⟩

variable {w w' : World} {b n : Nat} {f : S → Option Value}

theorem hmap.lt (h : hmap w b n f) : b < w.heap.size := let ⟨_, h, _⟩ := h; h.lt
theorem hmap.mono (h : hmap w b n f) {n' : Nat} (hn : n ≤ n') : hmap w b n' f := let ⟨D, h, hf⟩ := h; ⟨D, h.mono hn, hf⟩
theorem hmap.kept {row : Option Nat} (h : hmap w b n f) (hg : w.grownBy w' row) (hne : some b ≠ row) : hmap w' b n f := let ⟨D, h, hf⟩ := h; ⟨D, h.kept hg hne, hf⟩
theorem hmap.alloc (h : hmap w b n f) (o : Obj) : hmap (w.alloc o) b n f := let ⟨D, h, hf⟩ := h; ⟨D, h.alloc o, hf⟩
theorem hmap.drew (h : hmap w b n f) : hmap w.drew b n f := let ⟨D, h, hf⟩ := h; ⟨D, h.drew, hf⟩
theorem hmap.block (h : hmap w b n f) (hb : w'.heap[b]? = w.heap[b]?) : hmap w' b n f := by
  obtain ⟨D, ⟨es, clock, h1, h2⟩, hf⟩ := h
  exact ⟨D, ⟨es, clock, hb.trans h1, h2⟩, hf⟩
theorem hmap.below {k : Nat} (h : hmap w b n f) (hB : Below k w w') (hb : b < k) : hmap w' b n f := h.block (hB.block b hb)
theorem hmap.congr {g : S → Option Value} (h : hmap w b n f) (e : ∀ s, f s = g s) : hmap w b n g := by
  obtain rfl : f = g := funext e
  exact h

theorem key9 (s : ByteArray) (hs : s.size ≤ maxLen) : keyOf Try.prog 9 (.string s) = some (.string (B s)) := keyOf_string_mk Try.underlying9 hs
theorem isKey (s : S) : WideAt.IsKeyLit (.string s) := trivial

/-- A function, turned at one place. -/
def upd (f : S → Option Value) (s : S) (v : Value) : S → Option Value := fun x => if x = s then some v else f x

theorem hmap.look {t e : TypeId} {z : Value} (h : hmap w b n f) (ht : Try.prog.underlying t = some (.map 9 e)) (hz : (zeroValue e).run Try.prog w = .ok z w) (s : ByteArray) (hs : s.size ≤ maxLen) :
    (Instr.lookup t (.map (some b)) (.string s) false).run Try.prog w = .ok ((f (B s)).getD z) w := by
  obtain ⟨D, h, hf⟩ := h
  obtain ⟨v, ps, hrun, hv⟩ := h.lookup law9 ht hz (zd := .held z) (zp := []) rfl (key9 s hs)
  rw [hrun]
  simp only [Rh, Option.some.injEq, Prod.mk.injEq, (hf (B s)).2 z, DataW.held.injEq] at hv
  rw [hv.1]

theorem hmap.lookOk {t e : TypeId} {z : Value} (h : hmap w b n f) (ht : Try.prog.underlying t = some (.map 9 e)) (hz : (zeroValue e).run Try.prog w = .ok z w) (s : ByteArray) (hs : s.size ≤ maxLen) :
    (Instr.lookup t (.map (some b)) (.string s) true).run Try.prog w = .ok (.tuple #[(f (B s)).getD z, .bool (f (B s)).isSome]) w := by
  obtain ⟨D, h, hf⟩ := h
  obtain ⟨v, ps, hrun, hv⟩ := h.look_ok law9 ht hz (zd := .held z) (zp := []) rfl (key9 s hs)
  rw [hrun]
  simp only [Rh, Option.some.injEq, Prod.mk.injEq, (hf (B s)).2 z, DataW.held.injEq] at hv
  rw [hv.1, (hf (B s)).1]

theorem hmap.update {t e : TypeId} (h : hmap w b n f) (ht : Try.prog.underlying t = some (.map 9 e)) (hn : n < maxLen) (s : ByteArray) (hs : s.size ≤ maxLen) (v : Value) :
    ∃ w', (Instr.mapUpdate t (.map (some b)) (.string s) v).run Try.prog w = .ok () w' ∧ hmap w' b (n + 1) (upd f (B s) v) ∧ w.grownBy w' (some b) := by
  obtain ⟨D, h, hf⟩ := h
  obtain ⟨w', hrun, hown, hg⟩ := h.update law9 ht hn (val := v) (d := .held v) (ps := []) (key9 s hs) rfl
  have hk : WideAt.IsKeyLit (.string (B s)) := isKey _
  refine ⟨w', hrun, ⟨_, hown, fun x => ?_⟩, hg⟩
  by_cases e : x = B s
  · subst e
    refine ⟨?_, fun z => ?_⟩
    · rw [has_put_same h.isMap hk]; simp [upd]
    · rw [atKey_put_same h.isMap hk]; simp [upd]
  · have hne : (Lit.string x) ≠ Lit.string (B s) := by simpa using e
    refine ⟨?_, fun z => ?_⟩
    · rw [has_put_other hne, (hf x).1]; simp [upd, e]
    · rw [atKey_put_other hne, (hf x).2]; simp [upd, e]

/-- The keys, each once. -/
theorem keys_of {D : DataW Value} (h : w.ownsMap Try.prog 9 Rh b n D) (hf : ∀ s, has D (.string s) = (f s).isSome ∧ ∀ z, D.atKey (.string s) (.held z) = .held ((f s).getD z)) {ss : List S} (hp : ss.Perm (strKeys D)) :
    ss.Nodup ∧ ∀ x, x ∈ ss ↔ (f x).isSome = true := by
  obtain ⟨es, rfl, hk⟩ := h.keysOf
  obtain ⟨es', e', hap⟩ := h.tidy law9
  cases e'
  have hstr : ∀ p ∈ es, ∃ x : S, p.1 = .string x := by
    intro p hp'
    obtain ⟨v, hv⟩ := hk p hp'
    obtain ⟨x, _, hx, _⟩ := Maps.keyOf_str Try.underlying9 hv
    exact ⟨x, hx⟩
  have hnd : (strKeys (DataW.map es)).Nodup := by
    refine List.pairwise_map.2 (hap.imp_of_mem fun {p q} hp' hq' hne e => hne ?_)
    obtain ⟨a, ha⟩ := hstr p hp'
    obtain ⟨c, hc⟩ := hstr q hq'
    rw [ha, hc] at e ⊢
    exact congrArg _ e
  refine ⟨hp.nodup_iff.2 hnd, fun x => ?_⟩
  rw [hp.mem_iff, ← (hf x).1, has_eq, List.any_eq_true]
  constructor
  · intro hx
    obtain ⟨p, hp', e⟩ := List.mem_map.1 hx
    obtain ⟨a, ha⟩ := hstr p hp'
    refine ⟨p, hp', ?_⟩
    rw [ha] at e ⊢
    obtain rfl : a = x := e
    exact WideAt.sameKey_self (isKey _)
  · rintro ⟨p, hp', e⟩
    refine List.mem_map.2 ⟨p, hp', ?_⟩
    rw [(WideAt.sameKey_iff (isKey x)).1 e]
    rfl

section
variable {ops : Array Oper} {rest : List Oper} {o : Oper} {a : Act} {Q : Exit → Act → World → Prop}

theorem wpList_lookup_h (w : World) (hg : o.guard = none) (m x : Operand) (t : TypeId) (hop : o.op = Op.lookup t m x false)
    (e : TypeId) (ht : Try.prog.underlying t = some (.map 9 e)) (z : Value) (hz : (zeroValue e).run Try.prog w = .ok z w) (b n : Nat) (f : S → Option Value)
    (hm : a.eval m = .map (some b)) (hown : hmap w b n f) (s : ByteArray) (hx : a.eval x = .string s) (hs : s.size ≤ maxLen)
    (v : Value) (hv : (f (B s)).getD z = v) (hK : wpList Try.prog ops Q rest (a.put o.dst v) w) :
    wpList Try.prog ops Q (o :: rest) a w := by
  refine wpList_plain hg fun K' hK' => ?_
  have hrun := hown.look ht hz s hs
  rw [hv] at hrun
  unfold Oper.wp
  simp [execOp, hop, hm, hx, hrun, Result.andThen]
  exact hK' _ _ hK

theorem wpList_lookup_ok_h (w : World) (hg : o.guard = none) (m x : Operand) (t : TypeId) (hop : o.op = Op.lookup t m x true)
    (e : TypeId) (ht : Try.prog.underlying t = some (.map 9 e)) (z : Value) (hz : (zeroValue e).run Try.prog w = .ok z w) (b n : Nat) (f : S → Option Value)
    (hm : a.eval m = .map (some b)) (hown : hmap w b n f) (s : ByteArray) (hx : a.eval x = .string s) (hs : s.size ≤ maxLen)
    (v : Value) (hv : (f (B s)).getD z = v) (ok : Bool) (hok : (f (B s)).isSome = ok) (hK : wpList Try.prog ops Q rest (a.put o.dst (.tuple #[v, .bool ok])) w) :
    wpList Try.prog ops Q (o :: rest) a w := by
  refine wpList_plain hg fun K' hK' => ?_
  have hrun := hown.lookOk ht hz s hs
  rw [hv, hok] at hrun
  unfold Oper.wp
  simp [execOp, hop, hm, hx, hrun, Result.andThen]
  exact hK' _ _ hK

theorem wpList_update_h (w : World) (hg : o.guard = none) (m x v : Operand) (t : TypeId) (hop : o.op = Op.mapUpdate t m x v)
    (e : TypeId) (ht : Try.prog.underlying t = some (.map 9 e)) (b n : Nat) (f : S → Option Value)
    (hm : a.eval m = .map (some b)) (hown : hmap w b n f) (hn : n < maxLen) (s : ByteArray) (hx : a.eval x = .string s) (hs : s.size ≤ maxLen)
    (val : Value) (hv : a.eval v = val) (hK : ∀ w', hmap w' b (n + 1) (upd f (B s) val) → w.grownBy w' (some b) → wpList Try.prog ops Q rest (a.put o.dst undef) w') :
    wpList Try.prog ops Q (o :: rest) a w := by
  refine wpList_plain hg fun K' hK' => ?_
  obtain ⟨w', hrun, r1, r2⟩ := hown.update ht hn s hs val
  unfold Oper.wp
  simp [execOp, hop, hm, hx, hv, hrun, Result.andThen]
  exact hK' _ _ (hK w' r1 r2)
end
end Go.Proofs.Ytljfknneijmfoaa

namespace Go.Proofs.Ytljfknneijmfoaa
open Go.RowKit Go.Maps Go.WideMaps

theorem enc_U (l : S) : encStr l = .string (U l) := rfl

/-- A slice value that owns the strings xs. -/
abbrev World.ownsS (w : World) (base : Nat) (v : Value) (xs : List S) : Prop := w.ownsRow base 9 1 v xs.length (xs.map encStr)

/-- A function of lists, turned at one place. -/
def updL (g : S → List S) (s : S) (xs : List S) : S → List S := fun x => if x = s then xs else g x

/-- Block b is a map of strings to slices, each nil or the call's own, no two in one block: at s it owns g s. -/
def nrows (w : World) (base b n : Nat) (f : S → Option Value) (g : S → List S) : Prop :=
  hmap w b n f ∧ (∀ s, (f s = none → g s = []) ∧ ∀ v, f s = some v → w.ownsRow base 9 1 v (g s).length ((g s).map encStr)) ∧
  ∀ s t v u, s ≠ t → f s = some v → f t = some u → v.ownBlock = none ∨ v.ownBlock ≠ u.ownBlock

variable {w w' : World} {base b n : Nat} {f : S → Option Value} {g : S → List S}

theorem nrows_made (w : World) (base : Nat) : nrows (w.alloc (.map #[] 0)) base w.heap.size 0 (fun _ => none) (fun _ => []) :=
  ⟨hmap_made w, fun _ => ⟨fun _ => rfl, fun v h => by cases h⟩, fun _ _ _ _ _ h => by cases h⟩

theorem nrows.hmap (h : nrows w base b n f g) : hmap w b n f := h.1

/-- What a look-up gives. -/
theorem nrows.at (h : nrows w base b n f g) (s : S) : w.ownsRow base 9 1 ((f s).getD (.slice none 0 0)) (g s).length ((g s).map encStr) := by
  obtain ⟨_, h2, _⟩ := h
  cases e : f s with
  | none => rw [(h2 s).1 e]; exact World.ownsRow_nil _ _ _ _
  | some v => exact (h2 s).2 v e

theorem nrows.kept {row : Option Nat} (h : nrows w base b n f g) (hg : w.grownBy w' row) (hb : some b ≠ row) (hr : ∀ s v, f s = some v → v.ownBlock = none ∨ v.ownBlock ≠ row) : nrows w' base b n f g :=
  ⟨h.1.kept hg hb, fun s => ⟨(h.2.1 s).1, fun v e => ((h.2.1 s).2 v e).kept hg (hr s v e)⟩, h.2.2⟩

theorem nrows.alloc (h : nrows w base b n f g) (o : Obj) : nrows (w.alloc o) base b n f g :=
  ⟨h.1.alloc o, fun s => ⟨(h.2.1 s).1, fun v e => ((h.2.1 s).2 v e).alloc o⟩, h.2.2⟩

theorem nrows.drew (h : nrows w base b n f g) : nrows w.drew base b n f g := h

theorem nrows.mono (h : nrows w base b n f g) {n' : Nat} (hn : n ≤ n') : nrows w base b n' f g := ⟨h.1.mono hn, h.2⟩

/-- A write below the rows' base, beside the map. -/
theorem nrows.low {k : Nat} (h : nrows w base b n f g) (hg : w.grownBy w' (some k)) (hb : b ≠ k) (hk : k < base) : nrows w' base b n f g := by
  refine h.kept hg (fun e => hb (Option.some.inj e)) fun s v e => ?_
  cases hv : v.ownBlock with
  | none => exact .inl rfl
  | some j =>
    right
    intro e'
    have := (((h.2.1 s).2 v e).lt j hv).1
    have := Option.some.inj e'
    omega

/-- The row at s is written (or made anew), then stored back at s. -/
theorem nrows.back (h : nrows w base b n f g) (s : S) {w1 w2 : World} {v' : Value} {xs' : List S} (hbb : b < base)
    (hg1 : w.grownBy w1 ((f s).getD (.slice none 0 0)).ownBlock) (hown : w1.ownsRow base 9 1 v' xs'.length (xs'.map encStr))
    (hloc : v'.ownBlock = none ∨ v'.ownBlock = ((f s).getD (.slice none 0 0)).ownBlock ∨ ∃ k, v'.ownBlock = some k ∧ w.heap.size ≤ k)
    {n' : Nat} (hm2 : Ytljfknneijmfoaa.hmap w2 b n' (upd f s v')) (hg2 : w1.grownBy w2 (some b)) : nrows w2 base b n' (upd f s v') (updL g s xs') := by
  have hlow : ∀ {x : World} {v : Value} {xs : List S}, x.ownsRow base 9 1 v xs.length (xs.map encStr) → v.ownBlock = none ∨ v.ownBlock ≠ some b := by
    intro x v xs hx
    cases hv : v.ownBlock with
    | none => exact .inl rfl
    | some j => right; intro e; have := (hx.lt j hv).1; have := Option.some.inj e; omega
  have hother : ∀ t v, t ≠ s → f t = some v → v.ownBlock = none ∨ v.ownBlock ≠ ((f s).getD (.slice none 0 0)).ownBlock := by
    intro t v hne e
    cases e' : f s with
    | none =>
      cases hv : v.ownBlock with
      | none => exact .inl rfl
      | some j => right; simp [Value.ownBlock]
    | some u => exact h.2.2 t s v u hne e e'
  refine ⟨hm2, fun t => ?_, fun t u v x hne hv hx => ?_⟩
  · unfold upd updL
    by_cases e : t = s
    · rw [if_pos e, if_pos e]
      refine ⟨(fun h' => nomatch h'), fun v hv => ?_⟩
      cases hv
      exact hown.kept hg2 (hlow hown)
    · rw [if_neg e, if_neg e]
      refine ⟨(h.2.1 t).1, fun v hv => ?_⟩
      have o1 := ((h.2.1 t).2 v hv).kept hg1 (hother t v e hv)
      exact o1.kept hg2 (hlow o1)
  · unfold upd at hv hx
    have hnew : ∀ t v, t ≠ s → f t = some v → v.ownBlock = none ∨ v.ownBlock ≠ v'.ownBlock := by
      intro t v hne hv
      rcases hloc with hl | hl | ⟨k, hl, hk⟩
      · cases hvo : v.ownBlock with
        | none => exact .inl rfl
        | some j => right; rw [hl]; simp
      · rw [hl]; exact hother t v hne hv
      · cases hvo : v.ownBlock with
        | none => exact .inl rfl
        | some j =>
          right
          rw [hl]
          intro e
          have := (((h.2.1 t).2 v hv).lt j hvo).2
          have := Option.some.inj e
          omega
    by_cases e1 : t = s
    · by_cases e2 : u = s
      · exact absurd (e1.trans e2.symm) hne
      · rw [if_pos e1] at hv
        rw [if_neg e2] at hx
        cases hv
        rcases hnew u x e2 hx with h' | h'
        · cases hvo : v'.ownBlock with
          | none => exact .inl rfl
          | some j => right; rw [h']; simp
        · exact .inr (Ne.symm h')
    · rw [if_neg e1] at hv
      by_cases e2 : u = s
      · rw [if_pos e2] at hx
        cases hx
        exact hnew t v e1 hv
      · rw [if_neg e2] at hx
        exact h.2.2 t u v x hne hv hx

/-- The row at s is written in its place. -/
theorem nrows.touch (h : nrows w base b n f g) (s : S) {w1 : World} {xs' : List S} (hbb : b < base)
    (hg1 : w.grownBy w1 ((f s).getD (.slice none 0 0)).ownBlock) (hown : w1.ownsRow base 9 1 ((f s).getD (.slice none 0 0)) xs'.length (xs'.map encStr)) : nrows w1 base b n f (updL g s xs') := by
  have hother : ∀ t v, t ≠ s → f t = some v → v.ownBlock = none ∨ v.ownBlock ≠ ((f s).getD (.slice none 0 0)).ownBlock := by
    intro t v hne e
    cases e' : f s with
    | none =>
      cases hv : v.ownBlock with
      | none => exact .inl rfl
      | some j => right; simp [Value.ownBlock]
    | some u => exact h.2.2 t s v u hne e e'
  have hbne : some b ≠ ((f s).getD (.slice none 0 0)).ownBlock := by
    intro e
    have := ((h.at s).lt b e.symm).1
    omega
  refine ⟨h.1.kept hg1 hbne, fun t => ?_, h.2.2⟩
  unfold updL
  by_cases e : t = s
  · rw [if_pos e]
    subst e
    refine ⟨fun h0 => ?_, fun v hv => ?_⟩
    · rw [h0] at hown
      rcases hown.2 with ⟨_, h1⟩ | ⟨k, cap, cur, h1, _⟩
      · exact List.length_eq_zero_iff.1 h1
      · cases h1
    · rw [hv] at hown; exact hown
  · rw [if_neg e]
    exact ⟨(h.2.1 t).1, fun v hv => ((h.2.1 t).2 v hv).kept hg1 (hother t v e hv)⟩

theorem own_block {w w' : World} {base : Nat} {e : TypeId} {size : Nat} {v : Value} {n : Nat} {xs : List Value} (h : w.ownsRow base e size v n xs) (hb : ∀ k, v.ownBlock = some k → w'.heap[k]? = w.heap[k]?) : w'.ownsRow base e size v n xs := by
  obtain ⟨h1, h2⟩ := h
  refine ⟨h1, ?_⟩
  rcases h2 with h2 | ⟨g, cap, cur, rfl, hg, hh, r⟩
  · exact .inl h2
  · exact .inr ⟨g, cap, cur, rfl, hg, (hb g rfl).trans hh, r⟩

theorem own_below {w w' : World} {base : Nat} {e : TypeId} {size : Nat} {v : Value} {n : Nat} {xs : List Value} {k : Nat} (h : w.ownsRow base e size v n xs) (hB : Below k w w') (hk : w.heap.size ≤ k) : w'.ownsRow base e size v n xs :=
  own_block h fun j hj => hB.block j (Nat.lt_of_lt_of_le (h.lt j hj).2 hk)

theorem own_base {w : World} {base base' : Nat} {e : TypeId} {size : Nat} {v : Value} {n : Nat} {xs : List Value} (h : w.ownsRow base e size v n xs) (hb : base' ≤ base) : w.ownsRow base' e size v n xs := by
  obtain ⟨h1, h2⟩ := h
  refine ⟨h1, ?_⟩
  rcases h2 with h2 | ⟨g, cap, cur, rfl, hg, r⟩
  · exact .inl h2
  · exact .inr ⟨g, cap, cur, rfl, by omega, r⟩

/-- All that a map of rows is lies below k. -/
theorem nrows.below {k : Nat} (h : nrows w base b n f g) (hB : Below k w w') (hk : w.heap.size ≤ k) : nrows w' base b n f g :=
  ⟨h.1.below hB (Nat.lt_of_lt_of_le h.1.lt hk), fun s => ⟨(h.2.1 s).1, fun v hv => own_below ((h.2.1 s).2 v hv) hB hk⟩, h.2.2⟩

theorem grownBy_setCell (w : World) (a : Addr) (v : Value) : w.grownBy (w.setCell a v) (some a.block) :=
  ⟨rfl, rfl, rfl, by simp [World.setCell], fun i _ hne => Below.heap_setCell w a v i (fun e => hne (by rw [e]))⟩

end Go.Proofs.Ytljfknneijmfoaa

namespace Go.Proofs.Ytljfknneijmfoaa
open Go.RowKit Go.Maps Go.WideMaps

theorem leS_trans (a b c : S) (h : decide (a ≤ b) = true) (h' : decide (b ≤ c) = true) : decide (a ≤ c) = true := by
  simp only [decide_eq_true_eq] at *
  exact List.le_trans h h'
theorem leS_total (a b : S) : (decide (a ≤ b) || decide (b ≤ a)) = true := by
  simp only [Bool.or_eq_true, decide_eq_true_eq]
  exact List.le_total a b

/-- A sort of what stands there once is strictly ascending. -/
theorem SS_mergeSort {l : List S} (h : l.Nodup) : SS (l.mergeSort fun x y => decide (x ≤ y)) := by
  have h1 := List.pairwise_mergeSort leS_trans leS_total l
  have h2 : (l.mergeSort fun x y => decide (x ≤ y)).Nodup := (List.mergeSort_perm l _).nodup_iff.2 h
  rw [List.nodup_iff_pairwise_ne] at h2
  refine (h1.and h2).imp fun {a b} hab => ?_
  obtain ⟨hab, hne⟩ := hab
  simp only [decide_eq_true_eq] at hab
  exact Std.lt_of_le_of_ne hab hne

/-- maps.Keys at a map of ints. -/
theorem keys62 (mb : Option Nat) (w : World) : Calls Try.prog 62 #[.map mb] w fun e w' => e = .returned (.func (.func 89) #[] #[.pointer (some ⟨w.heap.size, 0, none⟩)]) ∧ w' = w.alloc (.cells #[.map mb] 84) :=
  callsIn_wide.1 (Try.maps_Keys_62 mb w)

/-- slices.Sorted of a map's keys. -/
theorem sorted61 {b n : Nat} {f : S → Option Value} {w : World} (h : hmap w b n f) (hn : n ≤ 1000000) :
    Calls Try.prog 61 #[.func (.func 89) #[] #[.pointer (some ⟨w.heap.size, 0, none⟩)]] (w.alloc (.cells #[.map (some b)] 84)) fun e w' => ∃ (v : Value) (xs : List S), e = .returned v ∧ SS xs ∧ (∀ x, x ∈ xs ↔ (f x).isSome = true) ∧ xs.length ≤ n ∧
      w'.ownsRow (w.heap.size + 1) 9 1 v xs.length (xs.map encStr) ∧ Below (w.heap.size + 1) (w.alloc (.cells #[.map (some b)] 84)) w' := by
  obtain ⟨D, hD, hf⟩ := h
  have hsz := hD.size_le
  refine (callsIn_wide.1 (Try.slices_Sorted_keys_61_62 b n D Rh w hD (by unfold maxLen; omega) (by omega))).mono ?_
  rintro e w' ⟨v, ss, rfl, hp, hrow, _, hb⟩
  obtain ⟨hnd, hmem⟩ := keys_of hD hf hp
  refine ⟨v, ss.mergeSort fun x y => decide (x ≤ y), rfl, SS_mergeSort hnd, fun x => ?_, ?_, ?_, by simpa using hb⟩
  · rw [(List.mergeSort_perm ss _).mem_iff]; exact hmem x
  · rw [List.length_mergeSort, hp.length_eq]
    obtain ⟨es, rfl, _⟩ := hD.keysOf
    show (es.map _).length ≤ n
    rw [List.length_map]
    exact hsz
  · rw [List.length_mergeSort]
    simpa using hrow
end Go.Proofs.Ytljfknneijmfoaa

namespace Go.Proofs.Ytljfknneijmfoaa
open Go.RowKit Go.Maps Go.WideMaps Go.Sort Go.Lib

/-- slices.Sort of what the call owns. -/
theorem sort86 {w : World} {base : Nat} {v : Value} {xs : List S} (h : w.ownsRow base 9 1 v xs.length (xs.map encStr)) (hn : xs.length ≤ 1000000) :
    Calls Try.prog 86 #[v] w fun e w' => e = .returned (.tuple #[]) ∧ w'.ownsRow base 9 1 v xs.length ((xs.mergeSort fun x y => decide (x ≤ y)).map encStr) ∧ w.grownBy w' v.ownBlock := by
  rcases h.2 with ⟨rfl, h0⟩ | ⟨g, cap, cur, rfl, hb, hg, hcap, hmax, hsz, ht⟩
  · have hx : xs = [] := List.length_eq_zero_iff.1 h0
    subst hx
    refine (Try.slices_Sort_string_none none 0 w).mono ?_
    rintro e w' ⟨rfl, rfl⟩
    exact ⟨rfl, by simpa using h, ⟨rfl, rfl, rfl, Nat.le_refl _, fun _ _ _ => rfl⟩⟩
  · have hlt : g < w.heap.size := (Array.getElem?_eq_some_iff.1 hg).1
    refine (Try.slices_Sort_string g 0 cap xs w (holds_of_block hg (by simpa using ht)) hlt (by omega)).mono ?_
    rintro e w' ⟨rfl, n, os, rfl⟩
    refine ⟨rfl, ownsRow_sorted (List.length_mergeSort _) hb hg hcap hmax hsz, grownBy_sorted _⟩

/-- slices.Compact of what the call owns. -/
theorem compact87 {w : World} {base : Nat} {v : Value} {xs : List S} (h : w.ownsRow base 9 1 v xs.length (xs.map encStr)) (hn : xs.length ≤ 1000000) :
    Calls Try.prog 87 #[v] w fun e w' => ∃ v', e = .returned v' ∧ w'.ownsRow base 9 1 v' (Go.Lib.compact xs).length ((Go.Lib.compact xs).map encStr) ∧ w.grownBy w' v.ownBlock ∧ v'.ownBlock = v.ownBlock := by
  rcases h.2 with ⟨rfl, h0⟩ | ⟨g, cap, cur, rfl, hb, hg, hcap, hmax, hsz, ht⟩
  · have hx : xs = [] := List.length_eq_zero_iff.1 h0
    subst hx
    refine (Try.slices_Compact_string_empty none 0 w).mono ?_
    rintro e w' ⟨rfl, rfl⟩
    exact ⟨_, rfl, by simpa [Go.Lib.compact, Go.Lib.compactUpTo] using h, ⟨rfl, rfl, rfl, Nat.le_refl _, fun _ _ _ => rfl⟩, rfl⟩
  · have hlt : g < w.heap.size := (Array.getElem?_eq_some_iff.1 hg).1
    refine (Try.slices_Compact_string g 0 cap xs w (holds_of_block hg (by simpa using ht)) (by omega) hcap).mono ?_
    rintro e w' ⟨rfl, q, rfl⟩
    have hle : (Go.Lib.compact xs).length ≤ xs.length := by
      unfold Go.Lib.compact Go.Lib.compactUpTo
      rw [List.length_map]
      exact Nat.le_trans (List.length_filter_le _ _) (by simp)
    refine ⟨_, rfl, ?_, ?_, rfl⟩
    · have := ownsRow_putRow (q := q) (ys := Go.Lib.compact xs ++ List.replicate (xs.length - (Go.Lib.compact xs).length) []) h (by simp; omega) hle
      rwa [List.take_left'] at this
      rfl
    · have := grownBy_sorted (w := w) (g := g) (n := q) (os := #[]) (Go.Lib.compact xs ++ List.replicate (xs.length - (Go.Lib.compact xs).length) []).toArray
      show w.grownBy _ (some g)
      simpa using this

theorem compact_step (d : Array S) (hs : ∀ j, j + 1 < d.size → d[j]! ≤ d[j + 1]!) (m : Nat) (hm : m ≤ d.size) :
    SS (Go.Lib.compactUpTo d m) ∧ (∀ x, x ∈ Go.Lib.compactUpTo d m ↔ ∃ j, j < m ∧ d[j]! = x) ∧ ∀ x, x ∈ Go.Lib.compactUpTo d m → 0 < m → x ≤ d[m - 1]! := by
  induction m with
  | zero =>
    refine ⟨List.Pairwise.nil, fun x => ⟨fun h => by simp [Go.Lib.compactUpTo] at h, fun ⟨j, hj, _⟩ => by omega⟩, fun x _ h => by omega⟩
  | succ m ih =>
    obtain ⟨i1, i2, i3⟩ := ih (by omega)
    rw [Go.Lib.compactUpTo_succ]
    have hle : 0 < m → d[m - 1]! ≤ d[m]! := fun h0 => by
      have := hs (m - 1) (by omega)
      rwa [show m - 1 + 1 = m by omega] at this
    have hall : ∀ x, x ∈ Go.Lib.compactUpTo d m → x ≤ d[m]! := fun x hx => by
      have h0 : 0 < m := by
        obtain ⟨j, hj, _⟩ := (i2 x).1 hx; omega
      exact Std.le_trans (i3 x hx h0) (hle h0)
    by_cases hk : Go.Lib.keeps d m = true
    · rw [if_pos hk]
      refine ⟨?_, fun x => ?_, fun x hx _ => ?_⟩
      · unfold SS
        rw [List.pairwise_append]
        refine ⟨i1, by simp, fun a ha b hb => ?_⟩
        simp at hb
        subst hb
        have h0 : 0 < m := by obtain ⟨j, hj, _⟩ := (i2 a).1 ha; omega
        have hne : d[m]! ≠ d[m - 1]! := by
          intro e
          rw [Go.Lib.keeps_neg h0 e] at hk
          cases hk
        have h1 : a ≤ d[m - 1]! := i3 a ha h0
        have h2 : d[m - 1]! < d[m]! := Std.lt_of_le_of_ne (hle h0) (Ne.symm hne)
        exact Std.lt_of_le_of_lt h1 h2
      · rw [List.mem_append, i2]
        constructor
        · rintro (⟨j, hj, e⟩ | h)
          · exact ⟨j, by omega, e⟩
          · exact ⟨m, by omega, (List.mem_singleton.1 h).symm⟩
        · rintro ⟨j, hj, e⟩
          by_cases hjm : j = m
          · right; rw [← e, hjm]; simp
          · exact .inl ⟨j, by omega, e⟩
      · rw [Nat.add_sub_cancel]
        rcases List.mem_append.1 hx with h | h
        · exact hall x h
        · rw [List.mem_singleton.1 h]; exact Std.le_refl _
    · rw [if_neg hk, List.append_nil]
      have h0 : 0 < m := by
        apply Nat.pos_of_ne_zero
        rintro rfl
        exact hk (Go.Lib.keeps_lt_one d 0 (by omega))
      have he : d[m]! = d[m - 1]! := by
        apply Classical.byContradiction
        intro hne
        exact hk (Go.Lib.keeps_pos hne)
      refine ⟨i1, fun x => ?_, fun x hx _ => ?_⟩
      · rw [i2]
        constructor
        · rintro ⟨j, hj, e⟩; exact ⟨j, by omega, e⟩
        · rintro ⟨j, hj, e⟩
          by_cases hjm : j = m
          · exact ⟨m - 1, by omega, by rw [← he, ← hjm]; exact e⟩
          · exact ⟨j, by omega, e⟩
      · rw [Nat.add_sub_cancel]; exact hall x hx

/-- Sorted and compacted: the members, ascending, each once. -/
theorem compact_sorted (xs : List S) : IsSrt xs (Go.Lib.compact (xs.mergeSort fun x y => decide (x ≤ y))) := by
  have hp := List.pairwise_mergeSort leS_trans leS_total xs
  have hm := (List.mergeSort_perm xs fun x y => decide (x ≤ y))
  generalize xs.mergeSort (fun x y => decide (x ≤ y)) = ys at hp hm
  have hs : ∀ j, j + 1 < ys.toArray.size → ys.toArray[j]! ≤ ys.toArray[j + 1]! := by
    intro j hj
    simp only [List.size_toArray] at hj
    rw [getElem!_pos ys.toArray j (by simp; omega), getElem!_pos ys.toArray (j + 1) (by simpa using hj)]
    have := (List.pairwise_iff_getElem.1 hp) j (j + 1) (by omega) hj (by omega)
    simpa using this
  obtain ⟨h1, h2, _⟩ := compact_step ys.toArray hs ys.length (by simp)
  refine ⟨h1, fun x => ?_⟩
  unfold Go.Lib.compact
  rw [h2, ← hm.mem_iff]
  constructor
  · rintro ⟨j, hj, rfl⟩
    rw [getElem!_pos ys.toArray j (by simpa using hj)]
    simp
  · intro hx
    obtain ⟨j, hj, e⟩ := List.mem_iff_getElem.1 hx
    exact ⟨j, hj, by rw [getElem!_pos ys.toArray j (by simpa using hj)]; simpa using e⟩
end Go.Proofs.Ytljfknneijmfoaa
