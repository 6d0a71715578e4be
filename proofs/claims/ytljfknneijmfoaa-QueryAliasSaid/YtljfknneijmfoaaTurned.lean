import Derived.Test.YtljfknneijmfoaaFar
import Derived.Test.YtljfknneijmfoaaFn58
namespace Go.Proofs.Ytljfknneijmfoaa
open Go.RowKit Go.Maps Go.WideMaps
open Go.Proofs.YtljfknneijmfoaaW.PrintWords (add_field)
open PGraphAsks (S50 z50 k50 at_T50 rd_T50 k50_mk)
open Go.Proofs.YtljfknneijmfoaaW.PrintWords

/-- An edge, as the printed texts have it. -/
def to50 (e : S × Int × S) : S50 := ⟨U e.1, e.2.1, U e.2.2⟩
def of50 (x : S50) : S × Int × S := (B x.f0, x.f1, B x.f2)
theorem of_to50 (e : S × Int × S) : of50 (to50 e) = e := rfl
theorem to_of50 (x : S50) : to50 (of50 x) = x := by cases x; simp [to50, of50, U_B]

theorem edges_of_C {w : World} {A : Option Addr} {l : List S50} (h : Kd.C k50 w A l.length l) : EdgeRow w A (l.map of50) := by
  intro k e he
  have hk : k < l.length := by simpa using (List.getElem?_eq_some_iff.1 he).1
  obtain ⟨ad, rfl, h0, h1, h2⟩ := at_T50 h (k : Int) (by omega) (by omega)
  have hr : rd_T50 l k = l[k] := by simp [rd_T50, List.getD_eq_getElem?_getD, List.getElem?_eq_getElem hk]
  have he' : e = of50 l[k] := by rw [List.getElem?_map, List.getElem?_eq_getElem hk] at he; exact (Option.some.inj he).symm
  rw [hr] at h0 h1 h2
  subst he'
  refine ⟨ad, rfl, ?_, ?_, ?_⟩
  · simpa [of50, U_B] using h0
  · simpa [of50] using h1
  · simpa [of50, U_B] using h2

theorem C_of_edges {w : World} {A : Option Addr} {es : List (S × Int × S)} (h : EdgeRow w A es) (hn : es.length ≤ 1000000) : Kd.C k50 w A es.length (es.map to50) := by
  refine ⟨by simp, by omega, fun h0 => ?_⟩
  obtain ⟨ad, rfl, _⟩ := h 0 _ (List.getElem?_eq_getElem h0)
  refine ⟨ad, rfl, fun j p hp => ?_⟩
  rw [List.getElem?_map] at hp
  obtain ⟨e, he, rfl⟩ := Option.map_eq_some_iff.1 hp
  obtain ⟨ad', ea, c0, c1, c2⟩ := h j e he
  cases ea
  refine ⟨_, rfl, k50_mk w _, fun i u hu => ?_⟩
  show w.cell? (ad.add (j * 3 + i)) = some u
  match i, hu with
  | 0, hu => cases hu; exact c0
  | 1, hu => cases hu; rw [add_field _ _ 1 (by omega)]; exact c1
  | 2, hu => cases hu; rw [add_field _ _ 2 (by omega)]; exact c2

/-- Turned round. -/
def swapE (e : S × Int × S) : S × Int × S := (e.2.2, 0, e.1)

theorem ends_swap (es : List (S × Int × S)) : ends (es.map swapE) = rev (ends es) := by
  simp [ends, rev, swapE, Function.comp_def]

theorem turned_l0 (es : List (S × Int × S)) (hn : es.length ≤ 1000000) : ∀ (m k i : Nat) (acc : List S50), es.length - i = m → i ≤ es.length → m < k → acc.length ≤ i →
    PGraphAsks.graph_turned.l0 k acc (es.map to50) (es.length : Int) (i : Int) = some (acc ++ (es.drop i).map fun e => to50 (swapE e)) := by
  intro m
  induction m with
  | zero =>
    intro k i acc hm hi hk ha
    obtain ⟨k, rfl⟩ : ∃ k', k = k' + 1 := ⟨k - 1, by omega⟩
    have : i = es.length := by omega
    subst this
    simp [PGraphAsks.graph_turned.l0]
  | succ m ih =>
    intro k i acc hm hi hk ha
    obtain ⟨k, rfl⟩ : ∃ k', k = k' + 1 := ⟨k - 1, by omega⟩
    have hlt : i < es.length := by omega
    unfold PGraphAsks.graph_turned.l0
    rw [if_pos (by omega), if_pos (by omega), if_pos (by simp; omega), if_pos (by omega)]
    have hw : wrap64 ((i : Int) + 1) = ((i + 1 : Nat) : Int) := by unfold wrap64; omega
    rw [hw, ih k (i + 1) _ (by omega) (by omega) (by omega) (by simp; omega)]
    rw [List.drop_eq_getElem_cons hlt]
    have hr : rd_T50 (es.map to50) (i : Int) = to50 es[i] := by simp [rd_T50, List.getD_eq_getElem?_getD, List.getElem?_eq_getElem hlt]
    rw [hr]
    rw [List.map_cons, List.append_assoc]
    rfl

theorem turned58 (A : Option Addr) (cap : Nat) (es : List (S × Int × S)) (w : World) (hE : EdgeRow w A es) (hn : es.length ≤ 100000) (hc : es.length ≤ cap) :
    Calls Try.prog 58 #[.slice A es.length cap] w fun e w' => ∃ A' c', e = .returned (.slice A' (es.map swapE).length c') ∧ EdgeRow w' A' (es.map swapE) ∧ Below w.heap.size w w' := by
  have hf : PGraphAsks.graph_turned.f (es.length + 1) (es.map to50) = some ((es.map swapE).map to50) := by
    unfold PGraphAsks.graph_turned.f
    rw [List.length_map]
    have := turned_l0 es (by omega) es.length (es.length + 1) 0 [] (by omega) (by omega) (by omega) (by simp)
    simpa [Function.comp_def] using this
  have hC := C_of_edges hE (by omega)
  have := PGraphAsks.graph_turned.calls (es.length + 1) A cap (es.map to50) _ w (by rw [List.length_map]; exact hC) (by rw [List.length_map]; exact hc) hf
  rw [List.length_map] at this
  refine this.mono ?_
  rintro e w' ⟨v, rfl, hR, hB⟩
  obtain ⟨A', c', rfl, _, hC'⟩ := Kd.R_reads hR
  refine ⟨A', c', by simp, ?_, hB⟩
  have := edges_of_C hC'
  simpa [Function.comp_def, of_to50] using this
end Go.Proofs.Ytljfknneijmfoaa
