import Derived.Test.YtljfknneijmfoaaNet
import Derived.Test.YtljfknneijmfoaaWWords
import Derived.Deep.LoopGhost
namespace Go.Proofs.Ytljfknneijmfoaa
open Go.RowKit Go.Maps Go.WideMaps
open Go.Proofs.YtljfknneijmfoaaW.PrintWords (QRow q_of_own q_append q_drop q_cells q_slice q_move q_lt q_typed cut_from)

/-- A row of strings that is read. -/
def StrRow (w : World) (A : Option Addr) (xs : List S) : Prop := ∀ (k : Nat) (x : S), xs[k]? = some x → ∃ ad, A = some ad ∧ w.cell? (ad.add k) = some (.string (U x))

/-- A map of distances. -/
def dmap (out : S → Option Nat) : S → Option Value := fun s => (out s).map fun (d : Nat) => Value.int .i64 (d : Int)

/-- How many of some are not met. -/
def unmet (us : List S) (out : S → Option Nat) : Nat := (us.filter fun u => (out u).isNone).length

theorem unmet_le (us : List S) (out : S → Option Nat) : unmet us out ≤ us.length := List.length_filter_le _ _

theorem unmet_fresh (us : List S) (out : S → Option Nat) (t : S) (d : Nat) (ht : t ∈ us) (h : out t = none) :
    unmet us (fun x => if x = t then some d else out x) < unmet us out := by
  unfold unmet
  show (us.filter fun u => ((if u = t then some d else out u) : Option Nat).isNone).length < (us.filter fun u => (out u).isNone).length
  have hmono : ∀ l : List S, (l.filter fun u => ((if u = t then some d else out u) : Option Nat).isNone).length ≤ (l.filter fun u => (out u).isNone).length := by
    intro l
    induction l with
    | nil => simp
    | cons y l ih =>
      rw [List.filter_cons, List.filter_cons]
      by_cases e : y = t
      · subst e
        simp [h]
        omega
      · simp only [if_neg e]
        split
        · simp only [List.length_cons]; omega
        · exact ih
  induction us with
  | nil => cases ht
  | cons u us ih =>
    rw [List.filter_cons, List.filter_cons]
    by_cases e : u = t
    · subst e
      have h1 := hmono us
      simp only [h, if_true, Option.isNone_some, Option.isNone_none, Bool.false_eq_true, if_false, List.length_cons]
      exact Nat.lt_succ_of_le h1
    · have h1 := ih (by simpa [Ne.symm e] using ht)
      simp only [if_neg e]
      split
      · simp only [List.length_cons]; omega
      · exact h1

theorem wpList_append_q {ops : Array Oper} {rest : List Oper} {o : Oper} {a : Act} {Q : Exit → Act → World → Prop} (w : World) (hgd : o.guard = none) (s x : Operand)
    (hop : o.op = .call { callee := .builtin .append, args := #[s, x], argTypes := #[22, 22] }) (base : Nat) (v : Value) (xs : List S) (hs : a.eval s = v) (hown : QRow w base 9 1 v xs.length (xs.map encStr))
    (ad : Addr) (c : Nat) (y : S) (hx : a.eval x = .slice (some ad) 1 c) (hnews : w.cell? ad = some (encStr y)) (hl : xs.length ≤ 1000000) (hbase : base ≤ w.heap.size)
    (hK : ∀ A c w', QRow w' base 9 1 (.slice A (xs.length + 1) c) (xs ++ [y]).length ((xs ++ [y]).map encStr) → w.grownBy w' v.ownBlock → ((Value.slice A (xs.length + 1) c).ownBlock = v.ownBlock ∨ ∃ b, (Value.slice A (xs.length + 1) c).ownBlock = some b ∧ w.heap.size ≤ b) →
      wpList Try.prog ops Q rest (a.put o.dst (.slice A (xs.length + 1) c)) w') :
    wpList Try.prog ops Q (o :: rest) a w := by
  obtain ⟨i9, hi9, hz90, hz91, hz92⟩ := info_parts info9
  obtain ⟨v', w', hr, h1, h2, h3⟩ := q_append (P := Try.prog) w base 22 o.type 9 i9 _ 1 16 Try.underlying22 hi9 hz90 hz91 hz92 rfl (by omega) v xs.length (xs.map encStr) hown ad 1 c [encStr y] rfl (by
      intro j u hu
      cases j with
      | zero => cases hu; simpa [Addr.add] using hnews
      | succ j => cases hu) (by simp [encStr, Value.oneCell']) (by omega) (by unfold maxLen; omega) (by omega) hbase
  obtain ⟨A, c', rfl, _⟩ := q_slice h1
  refine wpList_plain hgd fun K hK' => ?_
  unfold Oper.wp execOp
  simp only [hop, resolve, invoke, builtin, Sem.run_bind, Sem.run_pure, Result.andThen_ok, List.map_toArray, List.map_cons, List.map_nil, hs, hx, hr]
  exact hK' _ _ (hK A c' w' (by simpa using h1) h2 h3)

/-- The same at a step of a region that draws its order. -/
theorem step_append_q {ops : Array Oper} {o : Oper} {a : Act} {w : World} {K : Act → World → Prop} {Q : Exit → Act → World → Prop} {E : Prop} (hgd : o.guard = none) (s x : Operand)
    (hop : o.op = .call { callee := .builtin .append, args := #[s, x], argTypes := #[22, 22] }) (base : Nat) (v : Value) (xs : List S) (hs : a.eval s = v) (hown : QRow w base 9 1 v xs.length (xs.map encStr))
    (ad : Addr) (c : Nat) (y : S) (hx : a.eval x = .slice (some ad) 1 c) (hnews : w.cell? ad = some (encStr y)) (hl : xs.length ≤ 1000000) (hbase : base ≤ w.heap.size)
    (hK : ∀ A c w', QRow w' base 9 1 (.slice A (xs.length + 1) c) (xs ++ [y]).length ((xs ++ [y]).map encStr) → w.grownBy w' v.ownBlock → ((Value.slice A (xs.length + 1) c).ownBlock = v.ownBlock ∨ ∃ b, (Value.slice A (xs.length + 1) c).ownBlock = some b ∧ w.heap.size ≤ b) →
      K (a.put o.dst (.slice A (xs.length + 1) c)) w') :
    if Region.wanted o (yielded ops a.tmps) = true then Oper.wp Try.prog o a w K Q else E := by
  have hw : Region.wanted o (yielded ops a.tmps) = true := by simp [Region.wanted, hgd]
  rw [if_pos hw]
  obtain ⟨i9, hi9, hz90, hz91, hz92⟩ := info_parts info9
  obtain ⟨v', w', hr, h1, h2, h3⟩ := q_append (P := Try.prog) w base 22 o.type 9 i9 _ 1 16 Try.underlying22 hi9 hz90 hz91 hz92 rfl (by omega) v xs.length (xs.map encStr) hown ad 1 c [encStr y] rfl (by
      intro j u hu
      cases j with
      | zero => cases hu; simpa [Addr.add] using hnews
      | succ j => cases hu) (by simp [encStr, Value.oneCell']) (by omega) (by unfold maxLen; omega) (by omega) hbase
  obtain ⟨A, c', rfl, _⟩ := q_slice h1
  unfold Oper.wp execOp
  simp only [hop, resolve, invoke, builtin, Sem.run_bind, Sem.run_pure, Result.andThen_ok, List.map_toArray, List.map_cons, List.map_nil, hs, hx, hr]
  exact hK A c' w' (by simpa using h1) h2 h3
end Go.Proofs.Ytljfknneijmfoaa
