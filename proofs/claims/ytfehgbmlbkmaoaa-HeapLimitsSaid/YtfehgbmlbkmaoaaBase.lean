import Derived.Test.YtfehgbmlbkmaoaaProg
import Derived.Maps.OwnOps
import Derived.Maps.OwnSet
import Derived.Maps.Views
import Derived.WalkKit
import Derived.WalkLawsBesides
import Derived.Deep.QuietTactic
import Derived.BigQuiet
import Derived.Lib.Hide
import Derived.Outline
import Derived.Carry
import Derived.OwnWalk
import Derived.Maps.AppendAt
import Derived.WalkSpells
import Derived.WalkMore
import Derived.ScopeJumps
import Derived.StillTactics
import Derived.Deep.RegionHeld3
import Derived.Deep.AppendLies
import Derived.KernelRfl
import Derived.Laws.OwnMore
import Derived.Deep.Cut
import Derived.Deep.LoopGhost
import Derived.Test.YtfehgbmlbkmaoaaShelf
namespace Go.Proofs.Ytfehgbmlbkmaoaa
open Go.RowKit Go.Maps Go.WideMaps

abbrev S := List UInt8

/-- Bytes as a string of the machine. -/
def U (l : S) : ByteArray := ⟨l.toArray⟩
/-- .. and back. -/
def B (s : ByteArray) : S := s.data.toList
theorem B_U (l : S) : B (U l) = l := rfl
theorem U_B (s : ByteArray) : U (B s) = s := by cases s; simp [U, B]
theorem B_inj {a b : ByteArray} (h : B a = B b) : a = b := by rw [← U_B a, ← U_B b, h]
theorem size_B (s : ByteArray) : (B s).length = s.size := by cases s; simp [B, ByteArray.size]
theorem size_U (l : S) : (U l).size = l.length := by simp [U, ByteArray.size]

/-- An element is what it is. -/
def Rh : Value → Option (DataW Value × List MemPlace) := fun v => some (.held v, [])

/-- Block b is a map of strings of at most n entries, which holds f. -/
def hmap (w : World) (b n : Nat) (f : S → Option Value) : Prop :=
  ∃ D : DataW Value, w.ownsMap Try.prog 9 Rh b n D ∧ ∀ s, has D (.string s) = (f s).isSome ∧ ∀ z, D.atKey (.string s) (.held z) = .held ((f s).getD z)

theorem law9 : Keyed Try.prog 9 := string_keyed Try.underlying9

theorem hmap_made (w : World) : hmap (w.alloc (.map #[] 0)) w.heap.size 0 (fun _ => none) :=
  ⟨.map [], World.ownsMap_made _ _ _ _, fun _ => ⟨rfl, fun _ => rfl⟩⟩

variable {w w' : World} {b n : Nat} {f : S → Option Value}

theorem hmap.lt (h : hmap w b n f) : b < w.heap.size := let ⟨_, h, _⟩ := h; h.lt
theorem hmap.mono (h : hmap w b n f) {n' : Nat} (hn : n ≤ n') : hmap w b n' f := let ⟨D, h, hf⟩ := h; ⟨D, h.mono hn, hf⟩
theorem hmap.kept {row : Option Nat} (h : hmap w b n f) (hg : w.grownBy w' row) (hne : some b ≠ row) : hmap w' b n f := let ⟨D, h, hf⟩ := h; ⟨D, h.kept hg hne, hf⟩
theorem hmap.alloc (h : hmap w b n f) (o : Obj) : hmap (w.alloc o) b n f := let ⟨D, h, hf⟩ := h; ⟨D, h.alloc o, hf⟩
theorem hmap.drew (h : hmap w b n f) : hmap w.drew b n f := let ⟨D, h, hf⟩ := h; ⟨D, h.drew, hf⟩
theorem hmap.block (h : hmap w b n f) (hb : w'.heap[b]? = w.heap[b]?) : hmap w' b n f := by
  obtain ⟨D, ⟨es, clock, h1, h2⟩, hf⟩ := h
  exact ⟨D, ⟨es, clock, hb.trans h1, h2⟩, hf⟩
theorem hmap.below {k : Nat} (h : hmap w b n f) (hB : Below k w w') (hb : b < k) : hmap w' b n f := h.block (hB.block b hb)
theorem hmap.congr {g : S → Option Value} (h : hmap w b n f) (e : ∀ s, f s = g s) : hmap w b n g := by
  obtain rfl : f = g := funext e
  exact h

theorem key9 (s : ByteArray) (hs : s.size ≤ maxLen) : keyOf Try.prog 9 (.string s) = some (.string (B s)) := keyOf_string_mk Try.underlying9 hs
theorem isKey (s : S) : WideAt.IsKeyLit (.string s) := trivial

/-- A function, turned at one place. -/
def upd (f : S → Option Value) (s : S) (v : Value) : S → Option Value := fun x => if x = s then some v else f x

theorem hmap.look {t e : TypeId} {z : Value} (h : hmap w b n f) (ht : Try.prog.underlying t = some (.map 9 e)) (hz : (zeroValue e).run Try.prog w = .ok z w) (s : ByteArray) (hs : s.size ≤ maxLen) :
    (Instr.lookup t (.map (some b)) (.string s) false).run Try.prog w = .ok ((f (B s)).getD z) w := by
  obtain ⟨D, h, hf⟩ := h
  obtain ⟨v, ps, hrun, hv⟩ := h.lookup law9 ht hz (zd := .held z) (zp := []) rfl (key9 s hs)
  rw [hrun]
  simp only [Rh, Option.some.injEq, Prod.mk.injEq, (hf (B s)).2 z, DataW.held.injEq] at hv
  rw [hv.1]

theorem hmap.lookOk {t e : TypeId} {z : Value} (h : hmap w b n f) (ht : Try.prog.underlying t = some (.map 9 e)) (hz : (zeroValue e).run Try.prog w = .ok z w) (s : ByteArray) (hs : s.size ≤ maxLen) :
    (Instr.lookup t (.map (some b)) (.string s) true).run Try.prog w = .ok (.tuple #[(f (B s)).getD z, .bool (f (B s)).isSome]) w := by
  obtain ⟨D, h, hf⟩ := h
  obtain ⟨v, ps, hrun, hv⟩ := h.look_ok law9 ht hz (zd := .held z) (zp := []) rfl (key9 s hs)
  rw [hrun]
  simp only [Rh, Option.some.injEq, Prod.mk.injEq, (hf (B s)).2 z, DataW.held.injEq] at hv
  rw [hv.1, (hf (B s)).1]

theorem hmap.update {t e : TypeId} (h : hmap w b n f) (ht : Try.prog.underlying t = some (.map 9 e)) (hn : n < maxLen) (s : ByteArray) (hs : s.size ≤ maxLen) (v : Value) :
    ∃ w', (Instr.mapUpdate t (.map (some b)) (.string s) v).run Try.prog w = .ok () w' ∧ hmap w' b (n + 1) (upd f (B s) v) ∧ w.grownBy w' (some b) := by
  obtain ⟨D, h, hf⟩ := h
  obtain ⟨w', hrun, hown, hg⟩ := h.update law9 ht hn (val := v) (d := .held v) (ps := []) (key9 s hs) rfl
  have hk : WideAt.IsKeyLit (.string (B s)) := isKey _
  refine ⟨w', hrun, ⟨_, hown, fun x => ?_⟩, hg⟩
  by_cases e : x = B s
  · subst e
    refine ⟨?_, fun z => ?_⟩
    · rw [has_put_same h.isMap hk]; simp [upd]
    · rw [atKey_put_same h.isMap hk]; simp [upd]
  · have hne : (Lit.string x) ≠ Lit.string (B s) := by simpa using e
    refine ⟨?_, fun z => ?_⟩
    · rw [has_put_other hne, (hf x).1]; simp [upd, e]
    · rw [atKey_put_other hne, (hf x).2]; simp [upd, e]

section
variable {ops : Array Oper} {rest : List Oper} {o : Oper} {a : Act} {Q : Exit → Act → World → Prop}

theorem wpList_lookup_h (w : World) (hg : o.guard = none) (m x : Operand) (t : TypeId) (hop : o.op = Op.lookup t m x false)
    (e : TypeId) (ht : Try.prog.underlying t = some (.map 9 e)) (z : Value) (hz : (zeroValue e).run Try.prog w = .ok z w) (b n : Nat) (f : S → Option Value)
    (hm : a.eval m = .map (some b)) (hown : hmap w b n f) (s : ByteArray) (hx : a.eval x = .string s) (hs : s.size ≤ maxLen)
    (v : Value) (hv : (f (B s)).getD z = v) (hK : wpList Try.prog ops Q rest (a.put o.dst v) w) :
    wpList Try.prog ops Q (o :: rest) a w := by
  refine wpList_plain hg fun K' hK' => ?_
  have hrun := hown.look ht hz s hs
  rw [hv] at hrun
  unfold Oper.wp
  simp [execOp, hop, hm, hx, hrun, Result.andThen]
  exact hK' _ _ hK

theorem wpList_lookup_ok_h (w : World) (hg : o.guard = none) (m x : Operand) (t : TypeId) (hop : o.op = Op.lookup t m x true)
    (e : TypeId) (ht : Try.prog.underlying t = some (.map 9 e)) (z : Value) (hz : (zeroValue e).run Try.prog w = .ok z w) (b n : Nat) (f : S → Option Value)
    (hm : a.eval m = .map (some b)) (hown : hmap w b n f) (s : ByteArray) (hx : a.eval x = .string s) (hs : s.size ≤ maxLen)
    (v : Value) (hv : (f (B s)).getD z = v) (ok : Bool) (hok : (f (B s)).isSome = ok) (hK : wpList Try.prog ops Q rest (a.put o.dst (.tuple #[v, .bool ok])) w) :
    wpList Try.prog ops Q (o :: rest) a w := by
  refine wpList_plain hg fun K' hK' => ?_
  have hrun := hown.lookOk ht hz s hs
  rw [hv, hok] at hrun
  unfold Oper.wp
  simp [execOp, hop, hm, hx, hrun, Result.andThen]
  exact hK' _ _ hK

theorem wpList_update_h (w : World) (hg : o.guard = none) (m x v : Operand) (t : TypeId) (hop : o.op = Op.mapUpdate t m x v)
    (e : TypeId) (ht : Try.prog.underlying t = some (.map 9 e)) (b n : Nat) (f : S → Option Value)
    (hm : a.eval m = .map (some b)) (hown : hmap w b n f) (hn : n < maxLen) (s : ByteArray) (hx : a.eval x = .string s) (hs : s.size ≤ maxLen)
    (val : Value) (hv : a.eval v = val) (hK : ∀ w', hmap w' b (n + 1) (upd f (B s) val) → w.grownBy w' (some b) → wpList Try.prog ops Q rest (a.put o.dst undef) w') :
    wpList Try.prog ops Q (o :: rest) a w := by
  refine wpList_plain hg fun K' hK' => ?_
  obtain ⟨w', hrun, r1, r2⟩ := hown.update ht hn s hs val
  unfold Oper.wp
  simp [execOp, hop, hm, hx, hv, hrun, Result.andThen]
  exact hK' _ _ (hK w' r1 r2)
end

/-- What a cell of a block holds. -/
theorem cell_of_block {w : World} {b j : Nat} {c : Array Value} {t : TypeId} {fr : Nat × Nat} {v : Value} (h : w.heap[b]? = some (.cells c t fr)) (hj : c[j]? = some v) : w.cell? ⟨b, j, none⟩ = some v := by
  simp [World.cell?, h, hj]
theorem frozen_of_block {w : World} {b j : Nat} {c : Array Value} {t : TypeId} (h : w.heap[b]? = some (.cells c t (0, 0))) : w.frozen? ⟨b, j, none⟩ = false := by
  simp [World.frozen?, h]

/-- A store of a complex number, as of any value of one cell. -/
theorem run_store_complex {P : Program} {w : World} {a : Addr} {m : Mode} (k : FloatKind) (x y : Nat) : (store a (.complex k x y) m).run P w = stored P w a (.complex k x y) m := run_store P w a _ m rfl
end Go.Proofs.Ytfehgbmlbkmaoaa
