import Derived.Test.YtljfknneijmfoaaGPa
import Derived.Test.YtljfknneijmfoaaGFa
import Derived.Deep.Slices
import Derived.Deep.Fields
import Derived.ChangeSame
import Derived.Lib.SmallJoins
import Derived.SliceStrings
namespace Go.Proofs.Ytljfknneijmfoaa
open Go.ChangeShapes Go.WideShapes Go.Deep Go.Joins Go.RowKit
section
variable {H : Type} {enc : TypeId × Value → H} {w : World} {base : Nat} {spare : Nat → Bool} {held : Bool}
theorem cells9 : Try.prog.cellsOf 9 = 1 := by kernel_rfl

theorem cells3 : Try.prog.cellsOf 3 = 1 := by kernel_rfl

theorem cells50 : Try.prog.cellsOf 50 = 3 := by kernel_rfl

theorem cells22 : Try.prog.cellsOf 22 = 1 := by kernel_rfl

theorem cells24 : Try.prog.cellsOf 24 = 1 := by kernel_rfl

/-- A slice of strings that came in. -/
theorem open_strs {fuel : Nat} {cs : List Value} {x : DataW H × List MemPlace} (h : DataW.trod enc Try.prog w base spare held fuel 22 cs = some x) :
    ∃ A c xs, cs = [.slice A xs.length c] ∧ xs.length ≤ c ∧ c ≤ maxLen ∧ StrRow w A xs ∧ ∀ y ∈ xs, y.length ≤ maxLen := by
  rcases open_strings Try.underlying22 Try.underlying9 cells9 h with ⟨rfl, _⟩ | ⟨a, len, cap, ss, rfl, _, hl, hm, hz, _, hc, hs⟩
  · exact ⟨none, 0, [], rfl, Nat.le_refl _, by unfold maxLen; omega, fun k x hx => by simp at hx, fun y hy => by cases hy⟩
  · have hle : len ≤ ss.length := by rw [hz]; split <;> omega
    refine ⟨some a, cap, (ss.take len).map B, by simp [Nat.min_eq_left hle], by simp; omega, hm, fun k x hx => ?_, fun y hy => ?_⟩
    · rw [List.getElem?_map, Option.map_eq_some_iff] at hx
      obtain ⟨s, hs', rfl⟩ := hx
      have hk : k < len := by
        have := (List.getElem?_eq_some_iff.1 hs').1
        simp at this; omega
      rw [List.getElem?_take_of_lt hk] at hs'
      refine ⟨a, rfl, ?_⟩
      rw [hc k (by omega), U_B]
      simp [List.getD_eq_getElem?_getD, hs']
    · obtain ⟨s, hs', rfl⟩ := List.mem_map.1 hy
      rw [size_B]
      exact hs s (List.mem_of_mem_take hs')

theorem wf64 {z : Int} (h : (Lit.int .i64 z).wf = true) : -9223372036854775808 ≤ z ∧ z ≤ 9223372036854775807 := by
  have h1 : IntKind.i64.min = -9223372036854775808 := by decide
  have h2 : IntKind.i64.max = 9223372036854775807 := by decide
  simpa [Lit.wf, h1, h2] using h

theorem list2 {α : Type} {l : List α} (h : l.length = 2) : ∃ a b, l = [a, b] := by
  match l, h with
  | [a, b], _ => exact ⟨a, b, rfl⟩

theorem list3 {α : Type} {l : List α} (h : l.length = 3) : ∃ a b c, l = [a, b, c] := by
  match l, h with
  | [a, b, c], _ => exact ⟨a, b, c, rfl⟩

theorem add_one (a : Addr) (n : Nat) : a.add (n + 1) = ⟨a.block, a.off + (n + 1), none⟩ := rfl

/-- A slice of edges that came in. -/
theorem open_edges {fuel : Nat} {cs : List Value} {x : DataW H × List MemPlace} (h : DataW.trod enc Try.prog w base spare held fuel 24 cs = some x) :
    ∃ A c es, cs = [.slice A es.length c] ∧ es.length ≤ c ∧ c ≤ maxLen ∧ EdgeRow w A es ∧ ∀ e ∈ es, e.1.length ≤ maxLen ∧ e.2.2.length ≤ maxLen ∧ -9223372036854775808 ≤ e.2.1 ∧ e.2.1 ≤ 9223372036854775807 := by
  rcases open_slice Try.underlying24 h with ⟨rfl, _⟩ | ⟨a, len, cap, m, n, D, Pl, rfl, hb, hl, hm, hmm, _, hi⟩
  · exact ⟨none, 0, [], rfl, Nat.le_refl _, by unfold maxLen; omega, fun k x hx => by simp at hx, fun y hy => by cases hy⟩
  · have hlm : len ≤ m := by rw [hmm]; split <;> omega
    have one : ∀ i, i < len → ∃ e : S × Int × S, (w.cell? (a.add (i * 3)) = some (.string (U e.1)) ∧ w.cell? ⟨(a.add (i * 3)).block, (a.add (i * 3)).off + 1, none⟩ = some (.int .i64 e.2.1) ∧ w.cell? ⟨(a.add (i * 3)).block, (a.add (i * 3)).off + 2, none⟩ = some (.string (U e.2.2))) ∧
        e.1.length ≤ maxLen ∧ e.2.2.length ≤ maxLen ∧ -9223372036854775808 ≤ e.2.1 ∧ e.2.1 ≤ 9223372036854775807 := by
      intro i hil
      obtain ⟨cs', hc, ht⟩ := hi i (by omega)
      rw [cells50] at hc
      obtain ⟨xs, n', _, _, _, hx, hf⟩ := DataW.trod_struct Try.underlying50 ht
      obtain ⟨_, hcl, hat⟩ := World.cells?_some hc
      obtain ⟨c0, c1, c2, rfl⟩ := list3 hcl
      have h0 : DataW.trod enc Try.prog w base spare held n' 9 (([c0, c1, c2].drop 0).take (Try.prog.cellsOf 9)) = xs[0]? := hf 0 _ rfl
      have h1 : DataW.trod enc Try.prog w base spare held n' 3 (([c0, c1, c2].drop 1).take (Try.prog.cellsOf 3)) = xs[1]? := hf 1 _ rfl
      have h2 : DataW.trod enc Try.prog w base spare held n' 9 (([c0, c1, c2].drop 2).take (Try.prog.cellsOf 9)) = xs[2]? := hf 2 _ rfl
      rw [cells9] at h0 h2
      rw [cells3] at h1
      obtain ⟨y0, e0⟩ : ∃ y, xs[0]? = some y := ⟨_, List.getElem?_eq_getElem (by rw [hx]; decide)⟩
      obtain ⟨y1, e1⟩ : ∃ y, xs[1]? = some y := ⟨_, List.getElem?_eq_getElem (by rw [hx]; decide)⟩
      obtain ⟨y2, e2⟩ : ∃ y, xs[2]? = some y := ⟨_, List.getElem?_eq_getElem (by rw [hx]; decide)⟩
      rw [e0] at h0
      rw [e1] at h1
      rw [e2] at h2
      obtain ⟨s, es, _, hs⟩ := DataW.trod_string Try.underlying9 (show DataW.trod enc Try.prog w base spare held n' 9 [c0] = some y0 from h0)
      obtain ⟨z, ez, _, hz⟩ := DataW.trod_int Try.underlying3 (show DataW.trod enc Try.prog w base spare held n' 3 [c1] = some y1 from h1)
      obtain ⟨t, et, _, ht'⟩ := DataW.trod_string Try.underlying9 (show DataW.trod enc Try.prog w base spare held n' 9 [c2] = some y2 from h2)
      cases es
      cases ez
      cases et
      refine ⟨(B s, z, B t), ⟨?_, ?_, ?_⟩, by rw [size_B]; exact hs, by rw [size_B]; exact ht', wf64 hz⟩
      · have := hat 0 (by omega)
        rw [U_B]
        exact this
      · exact hat 1 (by omega)
      · have := hat 2 (by omega)
        rw [U_B]
        exact this
    obtain ⟨f, hf⟩ := choose_lt one
    refine ⟨some a, cap, (List.range len).map f, by simp, by simpa using hl, hm, fun k r hr => ?_, fun r hr => ?_⟩
    · rw [List.getElem?_map, Option.map_eq_some_iff] at hr
      obtain ⟨i, hi', rfl⟩ := hr
      have hk : k < len := by
        have := (List.getElem?_eq_some_iff.1 hi').1
        simpa using this
      rw [List.getElem?_range hk] at hi'
      cases hi'
      obtain ⟨h1, _⟩ := hf k hk
      exact ⟨a, rfl, h1⟩
    · obtain ⟨i, hi', rfl⟩ := List.mem_map.1 hr
      exact (hf i (List.mem_range.1 hi')).2
end
end Go.Proofs.Ytljfknneijmfoaa
namespace Go.Proofs.Ytljfknneijmfoaa
open Go.RowKit Go.Maps Go.WideMaps
open Go.Proofs.YtljfknneijmfoaaW.PrintWords
open PQueryCalls (S50 z50 k50 rd_T50 k50_mk lanternalike_Sum.l0 lanternalike_Total.l0 lanternalike_Edges.l0)
/-- An edge, as the texts printed for query have it. -/
def toQ50 (e : S × Int × S) : S50 := ⟨U e.1, e.2.1, U e.2.2⟩

theorem C_of_edgesQ {w : World} {A : Option Addr} {es : List (S × Int × S)} (h : EdgeRow w A es) (hn : es.length ≤ 9223372036854775807) : Kd.C k50 w A es.length (es.map toQ50) := by
  refine ⟨by simp, by omega, fun h0 => ?_⟩
  obtain ⟨ad, rfl, _⟩ := h 0 _ (List.getElem?_eq_getElem h0)
  refine ⟨ad, rfl, fun j p hp => ?_⟩
  rw [List.getElem?_map] at hp
  obtain ⟨e, he, rfl⟩ := Option.map_eq_some_iff.1 hp
  obtain ⟨ad', ea, c0, c1, c2⟩ := h j e he
  cases ea
  refine ⟨_, rfl, k50_mk w _, fun i u hu => ?_⟩
  show w.cell? (ad.add (j * 3 + i)) = some u
  match i, hu with
  | 0, hu => cases hu; exact c0
  | 1, hu => cases hu; rw [add_field _ _ 1 (by omega)]; exact c1
  | 2, hu => cases hu; rw [add_field _ _ 2 (by omega)]; exact c2

theorem C_of_strs {w : World} {A : Option Addr} {xs : List S} (h : StrRow w A xs) (hn : xs.length ≤ 9223372036854775807) : Kd.C Kd.string w A xs.length (xs.map U) := by
  refine ⟨by simp, by omega, fun h0 => ?_⟩
  obtain ⟨ad, rfl, _⟩ := h 0 _ (List.getElem?_eq_getElem h0)
  refine ⟨ad, rfl, fun j p hp => ?_⟩
  rw [List.getElem?_map] at hp
  obtain ⟨e, he, rfl⟩ := Option.map_eq_some_iff.1 hp
  obtain ⟨ad', ea, c0⟩ := h j e he
  cases ea
  refine ⟨_, rfl, rfl, fun i u hu => ?_⟩
  show w.cell? (ad.add (j * 1 + i)) = some u
  match i, hu with
  | 0, hu => cases hu; rw [Nat.mul_one]; exact c0

theorem sum_l0 (xs : List Int) (hx : ∀ x ∈ xs, 0 ≤ x ∧ x ≤ 9223372036854775807) (hl : xs.length ≤ 1000) : ∀ (m k i : Nat) (n : Int), xs.length - i = m → i ≤ xs.length → m < k → 0 ≤ n → n ≤ 9223372036854775807 →
    ∃ r, lanternalike_Sum.l0 k n xs (i : Int) = some r ∧ 0 ≤ r ∧ r ≤ 9223372036854775807 ∧ (r ≤ 2000 → r = n + (xs.drop i).sum) := by
  intro m
  induction m with
  | zero =>
    intro k i n hm hi hk h0 h1
    obtain ⟨k, rfl⟩ : ∃ k', k = k' + 1 := ⟨k - 1, by omega⟩
    have : i = xs.length := by omega
    subst this
    refine ⟨n, ?_, h0, h1, fun _ => by simp⟩
    unfold lanternalike_Sum.l0
    rw [if_neg (by omega)]
  | succ m ih =>
    intro k i n hm hi hk h0 h1
    obtain ⟨k, rfl⟩ : ∃ k', k = k' + 1 := ⟨k - 1, by omega⟩
    have hlt : i < xs.length := by omega
    have hrd : Go.Proofs.YtljfknneijmfoaaW.PrintWords.rd xs (i : Int) = xs[i] := by simp [Go.Proofs.YtljfknneijmfoaaW.PrintWords.rd, List.getD_eq_getElem?_getD, List.getElem?_eq_getElem hlt]
    obtain ⟨hx0, hx1⟩ := hx xs[i] (List.getElem_mem hlt)
    unfold lanternalike_Sum.l0
    rw [if_pos (by omega), hrd]
    by_cases c : n > 1099511627776
    · exact ⟨1099511627776, by rw [if_pos c], by omega, by omega, by omega⟩
    · rw [if_neg c, if_pos (by omega)]
      rw [show wrap64 (1099511627776 - n) = 1099511627776 - n by unfold wrap64; omega]
      by_cases c2 : xs[i] > 1099511627776 - n
      · exact ⟨1099511627776, by rw [if_pos c2], by omega, by omega, by omega⟩
      · rw [if_neg c2]
        rw [show wrap64 (n + xs[i]) = n + xs[i] by unfold wrap64; omega, show wrap64 ((i : Int) + 1) = ((i + 1 : Nat) : Int) by unfold wrap64; omega]
        obtain ⟨r, hr, r0, r1, r2⟩ := ih k (i + 1) (n + xs[i]) (by omega) (by omega) (by omega) (by omega) (by omega)
        refine ⟨r, hr, r0, r1, fun h => ?_⟩
        rw [List.drop_eq_getElem_cons hlt, List.sum_cons, r2 h]
        omega

theorem sum_any (k : Nat) (xs : List Int) (hx : ∀ x ∈ xs, 0 ≤ x ∧ x ≤ 9223372036854775807) (hl : xs.length ≤ 1000) (n : Int) (hk : xs.length < k) (h0 : 0 ≤ n) (h1 : n ≤ 9223372036854775807) :
    ∃ r, PQueryCalls.lanternalike_Sum.f k n xs = some r ∧ 0 ≤ r ∧ r ≤ 9223372036854775807 ∧ (r ≤ 2000 → r = n + xs.sum) := by
  unfold PQueryCalls.lanternalike_Sum.f
  exact sum_l0 xs hx hl xs.length k 0 n (by omega) (by omega) hk h0 h1

/-- The bytes of texts, and one for each. -/
def sizes (l : List S) : Int := (l.map fun s => (s.length : Int) + 1).sum

def sizesE (l : List (S × Int × S)) : Int := (l.map fun e => (e.1.length : Int) + e.2.2.length + 1).sum

theorem sizes_nonneg (l : List S) : 0 ≤ sizes l := by
  unfold sizes
  induction l with
  | nil => simp
  | cons a q ih => simp; omega

theorem sizesE_nonneg (l : List (S × Int × S)) : 0 ≤ sizesE l := by
  unfold sizesE
  induction l with
  | nil => simp
  | cons a q ih => simp; omega
end Go.Proofs.Ytljfknneijmfoaa
namespace Go.Proofs.Ytljfknneijmfoaa
open Go.RowKit Go.Maps Go.WideMaps
open Go.Proofs.YtljfknneijmfoaaW.PrintWords
theorem in_l0 (l : List S) (x : S) (hl : l.length ≤ 9223372036854775807) : ∀ (m k i : Nat), l.length - i = m → i ≤ l.length → m < k →
    ∃ r, PQueryCalls.lanternref1_in.l0 k (l.map U) (U x) (i : Int) = some r ∧ (0 ≤ r ↔ x ∈ l.drop i) := by
  intro m
  induction m with
  | zero =>
    intro k i hm hi hk
    obtain ⟨k, rfl⟩ : ∃ k', k = k' + 1 := ⟨k - 1, by omega⟩
    have : i = l.length := by omega
    subst this
    refine ⟨-1, ?_, by simp⟩
    unfold PQueryCalls.lanternref1_in.l0
    rw [if_neg (by simp)]
  | succ m ih =>
    intro k i hm hi hk
    obtain ⟨k, rfl⟩ : ∃ k', k = k' + 1 := ⟨k - 1, by omega⟩
    have hlt : i < l.length := by omega
    have hrd : rdOf ByteArray.empty (l.map U) (i : Int) = U l[i] := by simp [rdOf, List.getD_eq_getElem?_getD, List.getElem?_eq_getElem hlt]
    unfold PQueryCalls.lanternref1_in.l0
    rw [if_pos (by simp; omega), if_pos (by omega), hrd, toList_U, toList_U]
    rw [List.drop_eq_getElem_cons hlt]
    by_cases c : l[i] = x
    · refine ⟨(i : Int), by rw [if_pos c], ?_⟩
      rw [c]
      simp
    · rw [if_neg c, show wrap64 ((i : Int) + 1) = ((i + 1 : Nat) : Int) by unfold wrap64; omega]
      obtain ⟨r, hr, h⟩ := ih k (i + 1) (by omega) (by omega) (by omega)
      refine ⟨r, hr, h.trans ?_⟩
      rw [List.mem_cons]
      exact ⟨fun h => .inr h, fun h => h.resolve_left (fun e => c e.symm)⟩

/-- lanternref1.Has of a row of strings. -/
theorem has19 {A : Option Addr} {c : Nat} {l : List S} {w : World} (h : StrRow w A l) (hc : l.length ≤ c) (hl : l.length ≤ 1000000) (x : S) :
    Calls Try.prog 19 #[.slice A l.length c, .string (U x)] w fun e w' => e = .returned (.bool (l.contains x)) ∧ Below w.heap.size w w' := by
  obtain ⟨r, hr, hx⟩ := in_l0 l x (by omega) l.length (l.length + 1) 0 (by omega) (by omega) (by omega)
  rw [List.drop_zero] at hx
  have hf : PQueryCalls.lanternref1_Has.f (l.length + 1) (l.map U) (U x) = some (l.contains x) := by
    unfold PQueryCalls.lanternref1_Has.f PQueryCalls.lanternref1_in.f
    rw [show ((0 : Nat) : Int) = 0 from rfl] at hr
    rw [hr, Option.bind_some]
    congr 1
    rw [Bool.eq_iff_iff, decide_eq_true_eq, List.contains_iff_mem, ← hx]
  have hC := C_of_strs h (by omega)
  have := PQueryCalls.lanternref1_Has.calls (l.length + 1) A c (l.map U) (U x) _ w (by simpa using hC) (by simpa using hc) hf
  simp only [List.length_map] at this
  exact this.mono fun _ _ ⟨h1, h2⟩ => ⟨h1, h2.below⟩

theorem nodup_le {α : Type} [BEq α] [LawfulBEq α] : ∀ (a b : List α), a.Nodup → (∀ x ∈ a, x ∈ b) → a.length ≤ b.length := by
  intro a
  induction a with
  | nil => intro b _ _; simp
  | cons x a ih =>
    intro b hn hb
    rw [List.nodup_cons] at hn
    have hx := hb x (by simp)
    have := ih (b.erase x) hn.2 (fun y hy => (List.mem_erase_of_ne (fun e => hn.1 (by rw [← e]; exact hy))).2 (hb y (List.mem_cons_of_mem _ hy)))
    rw [List.length_erase_of_mem hx] at this
    have hpos : 0 < b.length := List.length_pos_of_mem hx
    rw [List.length_cons]
    omega
end Go.Proofs.Ytljfknneijmfoaa
namespace Go.Proofs.Ytljfknneijmfoaa
open Go.RowKit Go.Maps Go.WideMaps
open Go.Proofs.YtljfknneijmfoaaW.PrintWords

theorem texts_l0 (l : List S) (hl : l.length ≤ 9223372036854775807) : ∀ (m i : Nat), l.length - i = m → i ≤ l.length → Ev (fun k => PQueryCalls.lanternalike_Texts.l0 k (l.map U) (l.map U) (i : Int)) true := by
  intro m
  induction m with
  | zero =>
    intro i hm hi
    have : i = l.length := by omega
    subst this
    refine Ev.step (f := fun _ => some true) (fun k => ?_) (Ev.now true)
    show PQueryCalls.lanternalike_Texts.l0 (k + 1) _ _ _ = _
    rw [PQueryCalls.lanternalike_Texts.l0]
    rw [if_neg (by simp)]
  | succ m ih =>
    intro i hm hi
    refine Ev.step (fun k => ?_) (ih (i + 1) (by omega) (by omega))
    show PQueryCalls.lanternalike_Texts.l0 (k + 1) _ _ _ = _
    rw [PQueryCalls.lanternalike_Texts.l0]
    rw [if_pos (by simp; omega), if_pos (by omega), if_pos (by simp; omega), if_pos rfl, show wrap64 ((i : Int) + 1) = ((i + 1 : Nat) : Int) by unfold wrap64; omega]

/-- Texts of two that read alike. -/
theorem texts20 {A0 : Option Addr} {c0 : Nat} {A1 : Option Addr} {c1 : Nat} {l : List S} {w : World} (h0 : StrRow w A0 l) (hc0 : l.length ≤ c0) (h1 : StrRow w A1 l) (hc1 : l.length ≤ c1) (hl : l.length ≤ 9223372036854775807) :
    Calls Try.prog 20 #[.slice A0 l.length c0, .slice A1 l.length c1] w fun e w' => e = .returned (.bool true) ∧ Below w.heap.size w w' := by
  obtain ⟨k, hk⟩ := (texts_l0 l hl l.length 0 (by omega) (by omega)).rounds
  have hf : PQueryCalls.lanternalike_Texts.f k (l.map U) (l.map U) = some true := by
    unfold PQueryCalls.lanternalike_Texts.f
    rw [if_pos rfl]
    exact hk
  have hC0 := C_of_strs h0 hl
  have hC1 := C_of_strs h1 hl
  have := PQueryCalls.lanternalike_Texts.calls k A0 c0 (l.map U) A1 c1 (l.map U) true w (by simpa using hC0) (by simpa using hc0) (by simpa using hC1) (by simpa using hc1) hf
  simp only [List.length_map] at this
  exact this.mono fun _ _ ⟨h1, h2⟩ => ⟨h1, h2.below⟩
end Go.Proofs.Ytljfknneijmfoaa
namespace Go.Proofs.Ytljfknneijmfoaa
open Go.RowKit Go.Maps Go.WideMaps Go.Lib
open PQueryCalls

theorem edges_m0 (l : List (S × Int × S)) (hl : l.length ≤ 9223372036854775807) (hs : ∀ e ∈ l, e.1.length ≤ 9223372036854775807 ∧ e.2.2.length ≤ 9223372036854775807) : ∀ (m k i : Nat) (n : Int), l.length - i = m → i ≤ l.length → m + 5 < k → 0 ≤ n → n ≤ 9223372036854775807 →
    ∃ r, lanternalike_Edges.l0 k (l.map toQ50) 400 n (i : Int) = some r ∧ 0 ≤ r ∧ r ≤ 9223372036854775807 ∧ (r ≤ 400 → r = n + sizesE (l.drop i)) := by
  intro m
  induction m with
  | zero =>
    intro k i n hm hi hk h0 h1
    obtain ⟨k, rfl⟩ : ∃ k', k = k' + 1 := ⟨k - 1, by omega⟩
    have : i = l.length := by omega
    subst this
    refine ⟨n, ?_, h0, h1, fun _ => by simp [sizesE]⟩
    unfold lanternalike_Edges.l0
    rw [if_neg (by simp)]
  | succ m ih =>
    intro k i n hm hi hk h0 h1
    obtain ⟨k, rfl⟩ : ∃ k', k = k' + 1 := ⟨k - 1, by omega⟩
    have hlt : i < l.length := by omega
    have hrd : rd_T50 (l.map toQ50) (i : Int) = toQ50 l[i] := by simp [rd_T50, List.getD_eq_getElem?_getD, List.getElem?_eq_getElem hlt]
    have hsz := hs l[i] (List.getElem_mem hlt)
    have hf0 : ((toQ50 l[i]).f0.size : Int) = (l[i].1.length : Int) := by simp [toQ50, size_U]
    have hf2 : ((toQ50 l[i]).f2.size : Int) = (l[i].2.2.length : Int) := by simp [toQ50, size_U]
    unfold lanternalike_Edges.l0
    rw [if_pos (by simp; omega)]
    by_cases c : n ≤ 400
    · rw [if_pos c, if_pos (by omega), hrd, hf0, hf2]
      obtain ⟨t, ht, t0, t1, t2⟩ := sum_any k [(l[i].1.length : Int), (l[i].2.2.length : Int), 1] (by simp; omega) (by simp) n (by simp; omega) h0 h1
      rw [ht, Option.bind_some]
      rw [show wrap64 ((i : Int) + 1) = ((i + 1 : Nat) : Int) by unfold wrap64; omega]
      obtain ⟨r, hr, r0, r1, r2⟩ := ih k (i + 1) t (by omega) (by omega) (by omega) t0 t1
      refine ⟨r, hr, r0, r1, fun h => ?_⟩
      have h2 := r2 h
      have hnn : 0 ≤ sizesE (l.drop (i + 1)) := by
        unfold sizesE
        generalize l.drop (i + 1) = q
        induction q with
        | nil => simp
        | cons a q ih => simp; omega
      have h3 := t2 (by omega)
      simp at h3
      rw [List.drop_eq_getElem_cons hlt]
      unfold sizesE at h2 ⊢
      rw [List.map_cons, List.sum_cons]
      omega
    · rw [if_neg c]
      exact ⟨n, rfl, h0, h1, fun h => absurd h c⟩

theorem sizesE_length4 {l : List (S × Int × S)} (h : sizesE l ≤ 400) : l.length ≤ 400 ∧ ∀ e ∈ l, e.1.length ≤ 400 ∧ e.2.2.length ≤ 400 := by
  suffices hh : (l.length : Int) ≤ sizesE l ∧ ∀ e ∈ l, (e.1.length : Int) ≤ sizesE l ∧ (e.2.2.length : Int) ≤ sizesE l by
    exact ⟨by omega, fun s hs => by have := hh.2 s hs; omega⟩
  clear h
  unfold sizesE
  induction l with
  | nil => simp
  | cons a q ih =>
    obtain ⟨i1, i2⟩ := ih
    have : 0 ≤ (q.map fun e => (e.1.length : Int) + e.2.2.length + 1).sum := sizesE_nonneg q
    refine ⟨by simp only [List.length_cons, List.map_cons, List.sum_cons]; omega, fun s hs => ?_⟩
    simp only [List.map_cons, List.sum_cons]
    rcases List.mem_cons.1 hs with rfl | hs
    · omega
    · have := i2 s hs
      omega

/-- alike.Edges: how much there is. -/
theorem edges25 {A : Option Addr} {c : Nat} {es : List (S × Int × S)} {w : World} (h : es.length ≤ c ∧ c ≤ maxLen ∧ EdgeRow w A es ∧ ∀ e ∈ es, e.1.length ≤ maxLen ∧ e.2.2.length ≤ maxLen ∧ -9223372036854775808 ≤ e.2.1 ∧ e.2.1 ≤ 9223372036854775807) :
    Calls Try.prog 25 #[.slice A es.length c, .int .i64 400] w fun ee w' => ∃ z, ee = .returned (.int .i64 z) ∧ (z ≤ 400 → es.length ≤ 400 ∧ ∀ e ∈ es, e.1.length ≤ 400 ∧ e.2.2.length ≤ 400) ∧ Below w.heap.size w w' := by
  obtain ⟨h1, h2, h3, h4⟩ := h
  unfold maxLen at *
  obtain ⟨t2, e2, a2, b2, c2⟩ := edges_m0 es (by omega) (fun e he => ⟨(h4 e he).1, (h4 e he).2.1⟩) es.length (es.length + 20) 0 0 (by omega) (by omega) (by omega) (by omega) (by omega)
  have hr := C_of_edgesQ h3 (by omega)
  have := lanternalike_Edges.calls (es.length + 20) A c (es.map toQ50) 400 t2 w (by simpa using hr) (by simpa using h1) (by unfold lanternalike_Edges.f; exact e2)
  simp only [List.length_map] at this
  refine this.mono ?_
  rintro ee w' ⟨rfl, hB⟩
  refine ⟨t2, rfl, fun hz => ?_, hB⟩
  have h5 := c2 hz
  rw [List.drop_zero] at h5
  exact sizesE_length4 (by omega)
end Go.Proofs.Ytljfknneijmfoaa
