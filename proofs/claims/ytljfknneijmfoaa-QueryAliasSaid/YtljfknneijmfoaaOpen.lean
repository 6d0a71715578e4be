import Derived.Test.YtljfknneijmfoaaNums
import Derived.Deep.Slices
import Derived.Deep.Fields
import Derived.ChangeSame
import Derived.Lib.SmallJoins
import Derived.SliceStrings
namespace Go.Proofs.Ytljfknneijmfoaa
open Go.ChangeShapes Go.WideShapes Go.Deep Go.Joins Go.RowKit

section
variable {H : Type} {enc : TypeId × Value → H} {w : World} {base : Nat} {spare : Nat → Bool} {held : Bool}

theorem cells9 : Try.prog.cellsOf 9 = 1 := by kernel_rfl
theorem cells3 : Try.prog.cellsOf 3 = 1 := by kernel_rfl
theorem cells74 : Try.prog.cellsOf 74 = 2 := by kernel_rfl
theorem cells50 : Try.prog.cellsOf 50 = 3 := by kernel_rfl
theorem cells26 : Try.prog.cellsOf 26 = 6 := by kernel_rfl
theorem cells22 : Try.prog.cellsOf 22 = 1 := by kernel_rfl
theorem cells23 : Try.prog.cellsOf 23 = 1 := by kernel_rfl
theorem cells24 : Try.prog.cellsOf 24 = 1 := by kernel_rfl
theorem cells72 : Try.prog.cellsOf 72 = 1 := by kernel_rfl

/-- A slice of strings that came in. -/
theorem open_strs {fuel : Nat} {cs : List Value} {x : DataW H × List MemPlace} (h : DataW.trod enc Try.prog w base spare held fuel 22 cs = some x) :
    ∃ A c xs, cs = [.slice A xs.length c] ∧ xs.length ≤ c ∧ c ≤ maxLen ∧ StrRow w A xs ∧ ∀ y ∈ xs, y.length ≤ maxLen := by
  rcases open_strings Try.underlying22 Try.underlying9 cells9 h with ⟨rfl, _⟩ | ⟨a, len, cap, ss, rfl, _, hl, hm, hz, _, hc, hs⟩
  · exact ⟨none, 0, [], rfl, Nat.le_refl _, by unfold maxLen; omega, fun k x hx => by simp at hx, fun y hy => by cases hy⟩
  · have hle : len ≤ ss.length := by rw [hz]; split <;> omega
    refine ⟨some a, cap, (ss.take len).map B, by simp [Nat.min_eq_left hle], by simp; omega, hm, fun k x hx => ?_, fun y hy => ?_⟩
    · rw [List.getElem?_map, Option.map_eq_some_iff] at hx
      obtain ⟨s, hs', rfl⟩ := hx
      have hk : k < len := by
        have := (List.getElem?_eq_some_iff.1 hs').1
        simp at this; omega
      rw [List.getElem?_take_of_lt hk] at hs'
      refine ⟨a, rfl, ?_⟩
      rw [hc k (by omega), U_B]
      simp [List.getD_eq_getElem?_getD, hs']
    · obtain ⟨s, hs', rfl⟩ := List.mem_map.1 hy
      rw [size_B]
      exact hs s (List.mem_of_mem_take hs')

theorem wf64 {z : Int} (h : (Lit.int .i64 z).wf = true) : -9223372036854775808 ≤ z ∧ z ≤ 9223372036854775807 := by
  have h1 : IntKind.i64.min = -9223372036854775808 := by decide
  have h2 : IntKind.i64.max = 9223372036854775807 := by decide
  simpa [Lit.wf, h1, h2] using h

/-- A slice of ints that came in. -/
theorem open_nums {fuel : Nat} {cs : List Value} {x : DataW H × List MemPlace} (h : DataW.trod enc Try.prog w base spare held fuel 72 cs = some x) :
    ∃ A c zs, cs = [.slice A zs.length c] ∧ zs.length ≤ c ∧ c ≤ maxLen ∧ IntRow w A zs ∧ ∀ z ∈ zs, -9223372036854775808 ≤ z ∧ z ≤ 9223372036854775807 := by
  rcases open_ints Try.underlying72 Try.underlying3 cells3 h with ⟨rfl, _⟩ | ⟨a, len, cap, ss, rfl, _, hl, hm, hz, _, hc, hs⟩
  · exact ⟨none, 0, [], rfl, Nat.le_refl _, by unfold maxLen; omega, fun k x hx => by simp at hx, fun y hy => by cases hy⟩
  · have hle : len ≤ ss.length := by rw [hz]; split <;> omega
    refine ⟨some a, cap, ss.take len, by simp [Nat.min_eq_left hle], by simp; omega, hm, fun k x hx => ?_, fun y hy => ?_⟩
    · have hk : k < len := by
        have := (List.getElem?_eq_some_iff.1 hx).1
        simp at this; omega
      rw [List.getElem?_take_of_lt hk] at hx
      refine ⟨a, rfl, ?_⟩
      rw [hc k (by omega)]
      simp [List.getD_eq_getElem?_getD, hx]
    · exact wf64 (hs y (List.mem_of_mem_take hy))

theorem list2 {α : Type} {l : List α} (h : l.length = 2) : ∃ a b, l = [a, b] := by
  match l, h with
  | [a, b], _ => exact ⟨a, b, rfl⟩
theorem list3 {α : Type} {l : List α} (h : l.length = 3) : ∃ a b c, l = [a, b, c] := by
  match l, h with
  | [a, b, c], _ => exact ⟨a, b, c, rfl⟩
theorem list6 {α : Type} {l : List α} (h : l.length = 6) : ∃ a b c d e f, l = [a, b, c, d, e, f] := by
  match l, h with
  | [a, b, c, d, e, f], _ => exact ⟨a, b, c, d, e, f, rfl⟩
theorem array6 {α : Type} {l : Array α} (h : l.size = 6) : ∃ a b c d e f, l = #[a, b, c, d, e, f] := by
  obtain ⟨l⟩ := l
  obtain ⟨a, b, c, d, e, f, rfl⟩ := list6 (l := l) h
  exact ⟨a, b, c, d, e, f, rfl⟩
theorem add_one (a : Addr) (n : Nat) : a.add (n + 1) = ⟨a.block, a.off + (n + 1), none⟩ := rfl

/-- A slice of rows (of a variable, and its numbers) that came in. -/
theorem open_sets {fuel : Nat} {cs : List Value} {x : DataW H × List MemPlace} (h : DataW.trod enc Try.prog w base spare held fuel 23 cs = some x) :
    ∃ A c rows, cs = [.slice A rows.length c] ∧ rows.length ≤ c ∧ c ≤ maxLen ∧ SetRow w A rows ∧ ∀ r ∈ rows, r.1.length ≤ maxLen ∧ r.2.length ≤ maxLen ∧ ∀ z ∈ r.2, -9223372036854775808 ≤ z ∧ z ≤ 9223372036854775807 := by
  rcases open_slice Try.underlying23 h with ⟨rfl, _⟩ | ⟨a, len, cap, m, n, D, Pl, rfl, hb, hl, hm, hmm, _, hi⟩
  · exact ⟨none, 0, [], rfl, Nat.le_refl _, by unfold maxLen; omega, fun k x hx => by simp at hx, fun y hy => by cases hy⟩
  · have hlm : len ≤ m := by rw [hmm]; split <;> omega
    have one : ∀ i, i < len → ∃ r : S × List Int, (∃ Ai ci, w.cell? (a.add (i * 2)) = some (.string (U r.1)) ∧ w.cell? ⟨(a.add (i * 2)).block, (a.add (i * 2)).off + 1, none⟩ = some (.slice Ai r.2.length ci) ∧ r.2.length ≤ ci ∧ IntRow w Ai r.2) ∧
        r.1.length ≤ maxLen ∧ r.2.length ≤ maxLen ∧ ∀ z ∈ r.2, -9223372036854775808 ≤ z ∧ z ≤ 9223372036854775807 := by
      intro i hil
      obtain ⟨cs', hc, ht⟩ := hi i (by omega)
      rw [cells74] at hc
      obtain ⟨xs, n', _, _, _, hx, hf⟩ := DataW.trod_struct Try.underlying74 ht
      obtain ⟨_, hcl, hat⟩ := World.cells?_some hc
      obtain ⟨c0, c1, rfl⟩ := list2 hcl
      have h0 : DataW.trod enc Try.prog w base spare held n' 9 (([c0, c1].drop 0).take (Try.prog.cellsOf 9)) = xs[0]? := hf 0 _ rfl
      have h1 : DataW.trod enc Try.prog w base spare held n' 72 (([c0, c1].drop 1).take (Try.prog.cellsOf 72)) = xs[1]? := hf 1 _ rfl
      rw [cells9] at h0
      rw [cells72] at h1
      obtain ⟨y0, e0⟩ : ∃ y, xs[0]? = some y := ⟨_, List.getElem?_eq_getElem (by rw [hx]; decide)⟩
      obtain ⟨y1, e1⟩ : ∃ y, xs[1]? = some y := ⟨_, List.getElem?_eq_getElem (by rw [hx]; decide)⟩
      rw [e0] at h0
      rw [e1] at h1
      obtain ⟨s, es, _, hs⟩ := DataW.trod_string Try.underlying9 (show DataW.trod enc Try.prog w base spare held n' 9 [c0] = some y0 from h0)
      obtain ⟨Ai, ci, zs, ez, hle, hcm, hI, hw⟩ := open_nums (show DataW.trod enc Try.prog w base spare held n' 72 [c1] = some y1 from h1)
      cases es
      cases ez
      refine ⟨(B s, zs), ⟨Ai, ci, ?_, ?_, hle, hI⟩, by rw [size_B]; exact hs, by dsimp only; omega, hw⟩
      · have := hat 0 (by omega)
        rw [U_B]
        exact this
      · exact hat 1 (by omega)
    obtain ⟨f, hf⟩ := choose_lt one
    refine ⟨some a, cap, (List.range len).map f, by simp, by simpa using hl, hm, fun k r hr => ?_, fun r hr => ?_⟩
    · rw [List.getElem?_map, Option.map_eq_some_iff] at hr
      obtain ⟨i, hi', rfl⟩ := hr
      have hk : k < len := by
        have := (List.getElem?_eq_some_iff.1 hi').1
        simpa using this
      rw [List.getElem?_range hk] at hi'
      cases hi'
      obtain ⟨⟨Ai, ci, h1, h2, h3, h4⟩, _⟩ := hf k hk
      exact ⟨a, Ai, ci, rfl, h1, h2, h3, h4⟩
    · obtain ⟨i, hi', rfl⟩ := List.mem_map.1 hr
      exact (hf i (List.mem_range.1 hi')).2

/-- A slice of edges that came in. -/
theorem open_edges {fuel : Nat} {cs : List Value} {x : DataW H × List MemPlace} (h : DataW.trod enc Try.prog w base spare held fuel 24 cs = some x) :
    ∃ A c es, cs = [.slice A es.length c] ∧ es.length ≤ c ∧ c ≤ maxLen ∧ EdgeRow w A es ∧ ∀ e ∈ es, e.1.length ≤ maxLen ∧ e.2.2.length ≤ maxLen ∧ -9223372036854775808 ≤ e.2.1 ∧ e.2.1 ≤ 9223372036854775807 := by
  rcases open_slice Try.underlying24 h with ⟨rfl, _⟩ | ⟨a, len, cap, m, n, D, Pl, rfl, hb, hl, hm, hmm, _, hi⟩
  · exact ⟨none, 0, [], rfl, Nat.le_refl _, by unfold maxLen; omega, fun k x hx => by simp at hx, fun y hy => by cases hy⟩
  · have hlm : len ≤ m := by rw [hmm]; split <;> omega
    have one : ∀ i, i < len → ∃ e : S × Int × S, (w.cell? (a.add (i * 3)) = some (.string (U e.1)) ∧ w.cell? ⟨(a.add (i * 3)).block, (a.add (i * 3)).off + 1, none⟩ = some (.int .i64 e.2.1) ∧ w.cell? ⟨(a.add (i * 3)).block, (a.add (i * 3)).off + 2, none⟩ = some (.string (U e.2.2))) ∧
        e.1.length ≤ maxLen ∧ e.2.2.length ≤ maxLen ∧ -9223372036854775808 ≤ e.2.1 ∧ e.2.1 ≤ 9223372036854775807 := by
      intro i hil
      obtain ⟨cs', hc, ht⟩ := hi i (by omega)
      rw [cells50] at hc
      obtain ⟨xs, n', _, _, _, hx, hf⟩ := DataW.trod_struct Try.underlying50 ht
      obtain ⟨_, hcl, hat⟩ := World.cells?_some hc
      obtain ⟨c0, c1, c2, rfl⟩ := list3 hcl
      have h0 : DataW.trod enc Try.prog w base spare held n' 9 (([c0, c1, c2].drop 0).take (Try.prog.cellsOf 9)) = xs[0]? := hf 0 _ rfl
      have h1 : DataW.trod enc Try.prog w base spare held n' 3 (([c0, c1, c2].drop 1).take (Try.prog.cellsOf 3)) = xs[1]? := hf 1 _ rfl
      have h2 : DataW.trod enc Try.prog w base spare held n' 9 (([c0, c1, c2].drop 2).take (Try.prog.cellsOf 9)) = xs[2]? := hf 2 _ rfl
      rw [cells9] at h0 h2
      rw [cells3] at h1
      obtain ⟨y0, e0⟩ : ∃ y, xs[0]? = some y := ⟨_, List.getElem?_eq_getElem (by rw [hx]; decide)⟩
      obtain ⟨y1, e1⟩ : ∃ y, xs[1]? = some y := ⟨_, List.getElem?_eq_getElem (by rw [hx]; decide)⟩
      obtain ⟨y2, e2⟩ : ∃ y, xs[2]? = some y := ⟨_, List.getElem?_eq_getElem (by rw [hx]; decide)⟩
      rw [e0] at h0
      rw [e1] at h1
      rw [e2] at h2
      obtain ⟨s, es, _, hs⟩ := DataW.trod_string Try.underlying9 (show DataW.trod enc Try.prog w base spare held n' 9 [c0] = some y0 from h0)
      obtain ⟨z, ez, _, hz⟩ := DataW.trod_int Try.underlying3 (show DataW.trod enc Try.prog w base spare held n' 3 [c1] = some y1 from h1)
      obtain ⟨t, et, _, ht'⟩ := DataW.trod_string Try.underlying9 (show DataW.trod enc Try.prog w base spare held n' 9 [c2] = some y2 from h2)
      cases es
      cases ez
      cases et
      refine ⟨(B s, z, B t), ⟨?_, ?_, ?_⟩, by rw [size_B]; exact hs, by rw [size_B]; exact ht', wf64 hz⟩
      · have := hat 0 (by omega)
        rw [U_B]
        exact this
      · exact hat 1 (by omega)
      · have := hat 2 (by omega)
        rw [U_B]
        exact this
    obtain ⟨f, hf⟩ := choose_lt one
    refine ⟨some a, cap, (List.range len).map f, by simp, by simpa using hl, hm, fun k r hr => ?_, fun r hr => ?_⟩
    · rw [List.getElem?_map, Option.map_eq_some_iff] at hr
      obtain ⟨i, hi', rfl⟩ := hr
      have hk : k < len := by
        have := (List.getElem?_eq_some_iff.1 hi').1
        simpa using this
      rw [List.getElem?_range hk] at hi'
      cases hi'
      obtain ⟨h1, _⟩ := hf k hk
      exact ⟨a, rfl, h1⟩
    · obtain ⟨i, hi', rfl⟩ := List.mem_map.1 hr
      exact (hf i (List.mem_range.1 hi')).2

set_option maxRecDepth 10000 in
/-- A report that came in. -/
theorem open_report {b0 : Nat} {r : Reach} {v : Value} {d : DataW H} {ps : List MemPlace} (hv : Value.okWide Try.prog w r b0 26 v) (h : DataW.Trod enc Try.prog w base spare held 26 v d ps) :
    ∃ (e : S) (As : Option Addr) (cs : Nat) (sites : List S) (Ar : Option Addr) (cr : Nat) (rows : List (S × List Int)) (Ae : Option Addr) (ce : Nat) (es : List (S × Int × S)) (Ah : Option Addr) (ch : Nat) (reach : List S) (Ai : Option Addr) (ci : Nat) (inits : List S),
      v = .agg #[.string (U e), .slice As sites.length cs, .slice Ar rows.length cr, .slice Ae es.length ce, .slice Ah reach.length ch, .slice Ai inits.length ci] ∧
      e.length ≤ maxLen ∧ (sites.length ≤ cs ∧ cs ≤ maxLen ∧ StrRow w As sites ∧ ∀ y ∈ sites, y.length ≤ maxLen) ∧
      (rows.length ≤ cr ∧ cr ≤ maxLen ∧ SetRow w Ar rows ∧ ∀ r ∈ rows, r.1.length ≤ maxLen ∧ r.2.length ≤ maxLen ∧ ∀ z ∈ r.2, -9223372036854775808 ≤ z ∧ z ≤ 9223372036854775807) ∧
      (es.length ≤ ce ∧ ce ≤ maxLen ∧ EdgeRow w Ae es ∧ ∀ e ∈ es, e.1.length ≤ maxLen ∧ e.2.2.length ≤ maxLen ∧ -9223372036854775808 ≤ e.2.1 ∧ e.2.1 ≤ 9223372036854775807) ∧
      (reach.length ≤ ch ∧ ch ≤ maxLen ∧ StrRow w Ah reach ∧ ∀ y ∈ reach, y.length ≤ maxLen) ∧
      (inits.length ≤ ci ∧ ci ≤ maxLen ∧ StrRow w Ai inits ∧ ∀ y ∈ inits, y.length ≤ maxLen) := by
  obtain ⟨cs, rfl, hsz⟩ := okWide_struct Try.underlying26 hv
  obtain ⟨fuel, hf⟩ := h
  obtain ⟨xs, n, _, _, _, hx, hg⟩ := DataW.trod_struct Try.underlying26 hf
  obtain ⟨c0, c1, c2, c3, c4, c5, rfl⟩ := array6 (hsz.trans cells26)
  have h0 : DataW.trod enc Try.prog w base spare held n 9 (([c0, c1, c2, c3, c4, c5].drop 0).take (Try.prog.cellsOf 9)) = xs[0]? := hg 0 _ rfl
  have h1 : DataW.trod enc Try.prog w base spare held n 22 (([c0, c1, c2, c3, c4, c5].drop 1).take (Try.prog.cellsOf 22)) = xs[1]? := hg 1 _ rfl
  have h2 : DataW.trod enc Try.prog w base spare held n 23 (([c0, c1, c2, c3, c4, c5].drop 2).take (Try.prog.cellsOf 23)) = xs[2]? := hg 2 _ rfl
  have h3 : DataW.trod enc Try.prog w base spare held n 24 (([c0, c1, c2, c3, c4, c5].drop 3).take (Try.prog.cellsOf 24)) = xs[3]? := hg 3 _ rfl
  have h4 : DataW.trod enc Try.prog w base spare held n 22 (([c0, c1, c2, c3, c4, c5].drop 4).take (Try.prog.cellsOf 22)) = xs[4]? := hg 4 _ rfl
  have h5 : DataW.trod enc Try.prog w base spare held n 22 (([c0, c1, c2, c3, c4, c5].drop 5).take (Try.prog.cellsOf 22)) = xs[5]? := hg 5 _ rfl
  rw [cells9] at h0
  rw [cells22] at h1 h4 h5
  rw [cells23] at h2
  rw [cells24] at h3
  rw [List.getElem?_eq_getElem (by rw [hx]; decide)] at h0 h1 h2 h3 h4 h5
  simp only [List.drop_zero, List.take_succ_cons, List.take_zero] at h0
  simp only [List.drop_succ_cons, List.drop_zero, List.take_succ_cons, List.take_zero] at h1
  simp only [List.drop_succ_cons, List.drop_zero, List.take_succ_cons, List.take_zero] at h2
  simp only [List.drop_succ_cons, List.drop_zero, List.take_succ_cons, List.take_zero] at h3
  simp only [List.drop_succ_cons, List.drop_zero, List.take_succ_cons, List.take_zero] at h4
  simp only [List.drop_succ_cons, List.drop_zero, List.take_succ_cons, List.take_zero] at h5
  obtain ⟨s, es0, _, hs⟩ := DataW.trod_string Try.underlying9 h0
  obtain ⟨As, ks, sites, es1, g1⟩ := open_strs h1
  obtain ⟨Ar, kr, rows, es2, g2⟩ := open_sets h2
  obtain ⟨Ae, ke, es, es3, g3⟩ := open_edges h3
  obtain ⟨Ah, kh, reach, es4, g4⟩ := open_strs h4
  obtain ⟨Ai, ki, inits, es5, g5⟩ := open_strs h5
  have q0 : c0 = .string s := by simpa [Value.cells] using es0
  have q1 : c1 = .slice As sites.length ks := by simpa [Value.cells] using es1
  have q2 : c2 = .slice Ar rows.length kr := by simpa [Value.cells] using es2
  have q3 : c3 = .slice Ae es.length ke := by simpa [Value.cells] using es3
  have q4 : c4 = .slice Ah reach.length kh := by simpa [Value.cells] using es4
  have q5 : c5 = .slice Ai inits.length ki := by simpa [Value.cells] using es5
  subst q0 q1 q2 q3 q4 q5
  exact ⟨B s, As, ks, sites, Ar, kr, rows, Ae, ke, es, Ah, kh, reach, Ai, ki, inits, by rw [U_B], by rw [size_B]; exact hs, g1, g2, g3, g4, g5⟩

end
end Go.Proofs.Ytljfknneijmfoaa
