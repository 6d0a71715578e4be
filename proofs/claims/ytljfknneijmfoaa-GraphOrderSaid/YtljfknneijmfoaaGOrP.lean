import Derived.Test.YtljfknneijmfoaaOrdP
import Derived.Test.YtljfknneijmfoaaQs
import Derived.Test.YtljfknneijmfoaaSrt
namespace Go.Proofs.Ytljfknneijmfoaa
open Go.RowKit Go.Maps Go.WideMaps Go.Lib
open Go.Proofs.YtljfknneijmfoaaW.PrintWords

abbrev E3 := S × Int × S

/-- The edges once more, from a place on, twice round, at other places. -/
def mk (es : List E3) (c q : Nat) : List E3 := (List.range q).map fun (i : Nat) => ((es.getD ((i + c) % es.length) ([], 0, [])).1, (i : Int), (es.getD ((i + c) % es.length) ([], 0, [])).2.2)

theorem mk_succ {es : List E3} {c q : Nat} {e : E3} (h : es[(q + c) % es.length]? = some e) : mk es c (q + 1) = mk es c q ++ [(e.1, (q : Int), e.2.2)] := by
  unfold mk
  rw [List.range_succ, List.map_append, List.map_singleton, List.getD_eq_getElem?_getD, h]
  rfl

theorem mk_length (es : List E3) (c q : Nat) : (mk es c q).length = q := by simp [mk]

theorem mk_mem {es : List E3} {c q : Nat} {e : E3} (h : e ∈ mk es c q) (h0 : 0 < es.length) : ∃ x ∈ es, e.1 = x.1 ∧ e.2.2 = x.2.2 := by
  obtain ⟨i, _, rfl⟩ := List.mem_map.1 h
  have hl := Nat.mod_lt (i + c) h0
  refine ⟨es[(i + c) % es.length], List.getElem_mem hl, ?_, ?_⟩
  · simp [List.getD_eq_getElem?_getD, List.getElem?_eq_getElem hl]
  · simp [List.getD_eq_getElem?_getD, List.getElem?_eq_getElem hl]

theorem mk_alike (es : List E3) (c : Nat) : Alike (ends (mk es c (2 * es.length))) (ends es) := by
  intro e
  constructor
  · intro h
    obtain ⟨x, hx, rfl⟩ := List.mem_map.1 h
    have h0 : 0 < es.length := by
      have := List.length_pos_of_mem hx
      rw [mk_length] at this
      omega
    obtain ⟨y, hy, e1, e2⟩ := mk_mem hx h0
    exact List.mem_map.2 ⟨y, hy, by rw [e1, e2]⟩
  · intro h
    obtain ⟨x, hx, rfl⟩ := List.mem_map.1 h
    obtain ⟨j, hj, rfl⟩ := List.mem_iff_getElem.1 hx
    have h0 : 0 < es.length := by omega
    have hc := Nat.div_add_mod c es.length
    have hl := Nat.mod_lt c h0
    obtain ⟨i, hi, hij⟩ : ∃ i, i < es.length ∧ (i + c) % es.length = j := by
      by_cases hcj : c % es.length ≤ j
      · refine ⟨j - c % es.length, by omega, ?_⟩
        rw [show j - c % es.length + c = j + es.length * (c / es.length) by omega, Nat.add_mul_mod_self_left, Nat.mod_eq_of_lt hj]
      · refine ⟨j + es.length - c % es.length, by omega, ?_⟩
        rw [show j + es.length - c % es.length + c = j + es.length + es.length * (c / es.length) by omega, Nat.add_mul_mod_self_left, Nat.add_mod_right, Nat.mod_eq_of_lt hj]
    refine List.mem_map.2 ⟨(es[j].1, (i : Int), es[j].2.2), List.mem_map.2 ⟨i, List.mem_range.2 (by omega), ?_⟩, rfl⟩
    rw [hij]
    simp [List.getD_eq_getElem?_getD, List.getElem?_eq_getElem hj]

/-- How edges lie. -/
def edgeCells (l : List E3) : List Value := l.flatMap fun e => [.string (U e.1), .int .i64 e.2.1, .string (U e.2.2)]

theorem edgeCells_snoc (l : List E3) (e : E3) : edgeCells (l ++ [e]) = edgeCells l ++ [.string (U e.1), .int .i64 e.2.1, .string (U e.2.2)] := by simp [edgeCells]

theorem edgeCells_get (l : List E3) (k : Nat) (e : E3) (h : l[k]? = some e) : (edgeCells l)[k * 3]? = some (.string (U e.1)) ∧ (edgeCells l)[k * 3 + 1]? = some (.int .i64 e.2.1) ∧ (edgeCells l)[k * 3 + 2]? = some (.string (U e.2.2)) := by
  induction l generalizing k with
  | nil => simp at h
  | cons x l ih =>
    cases k with
    | zero => simp at h; subst h; simp [edgeCells]
    | succ k =>
      have := ih k (by simpa using h)
      rw [show (k + 1) * 3 = k * 3 + 1 + 1 + 1 by omega]
      simpa [edgeCells] using this

theorem edge_of_own {w : World} {base : Nat} {A : Option Addr} {c : Nat} {l : List E3} (h : w.ownsRow base 50 3 (.slice A l.length c) l.length (edgeCells l)) : EdgeRow w A l := by
  intro k e he
  have hk := (List.getElem?_eq_some_iff.1 he).1
  obtain ⟨ad, rfl, hc⟩ := q_cells (q_of_own h) (by omega)
  obtain ⟨h1, h2, h3⟩ := edgeCells_get l k e he
  refine ⟨ad, rfl, hc _ _ h1, ?_, ?_⟩
  · have := hc _ _ h2
    rwa [← Go.Deep.add_add] at this
  · have := hc _ _ h3
    rwa [← Go.Deep.add_add] at this

theorem info50 : (Try.prog.info? 50).map (fun i => (i.zero, i.size, i.bytes)) = some (some (.agg #[.string ⟨#[]⟩, .int .i64 0, .string ⟨#[]⟩]), 3, 40) := by kernel_rfl

theorem strsC' {w : World} {A : Option Addr} {l : List ByteArray} (h : Kd.C Kd.string w A l.length l) : StrRow w A (l.map B) := by
  intro k x hx
  rw [List.getElem?_map, Option.map_eq_some_iff] at hx
  obtain ⟨s, hs, rfl⟩ := hx
  have hk : k < l.length := (List.getElem?_eq_some_iff.1 hs).1
  obtain ⟨_, _, h3⟩ := h
  obtain ⟨ad, rfl, h4⟩ := h3 (by omega)
  obtain ⟨cs, _, hK, hc⟩ := h4 k s hs
  have hK' : cs = [.string s] := hK
  subst hK'
  have := hc 0 _ rfl
  refine ⟨ad, rfl, ?_⟩
  rw [U_B]
  have e : k * (Kd.string).sz + 0 = k := Nat.mul_one k
  rw [e] at this
  exact this

theorem tmod_bounds (k : Int) (n : Nat) (h0 : 0 < n) : -(n : Int) < k.tmod n ∧ k.tmod n < n := by
  have h1 := Int.natAbs_tmod k n
  have h2 := Nat.mod_lt k.natAbs h0
  rw [Int.natAbs_natCast] at h1
  omega

theorem tmod_emod (k : Int) (n : Nat) (h0 : 0 < n) : k % (n : Int) = if k.tmod n < 0 then k.tmod n + n else k.tmod n := by
  obtain ⟨h1, h2⟩ := tmod_bounds k n h0
  have h3 := Int.tmod_add_mul_tdiv k n
  split
  · have e : k = (k.tmod n + n) + (n : Int) * (k.tdiv n - 1) := by rw [Int.mul_sub, Int.mul_one]; omega
    conv => lhs; rw [e]
    rw [Int.add_mul_emod_self_left, Int.emod_eq_of_lt (by omega) (by omega)]
  · have e : k = k.tmod n + (n : Int) * k.tdiv n := by omega
    conv => lhs; rw [e]
    rw [Int.add_mul_emod_self_left, Int.emod_eq_of_lt (by omega) (by omega)]

set_option maxRecDepth 100000 in
/-- alike.Round: what is left, at least 0. -/
theorem round51 (k : Int) (n : Nat) (h0 : 0 < n) (h1 : n ≤ 1000000) (w : World) :
    Calls Try.prog 51 #[.int .i64 k, .int .i64 n] w fun e w' => e = .returned (.int .i64 (k % (n : Int))) ∧ w' = w := by
  have hb := tmod_bounds k n h0
  have he := tmod_emod k n h0
  by_cases hneg : k.tmod n < 0
  · have hw : wrap64 (k.tmod n + n) = k.tmod n + n := by unfold wrap64; omega
    have hr : k % (n : Int) = k.tmod n + n := by rw [he, if_pos hneg]
    rw [hr, ← hw]
    clear hr he hb
    go_enter Try.func51, Try.ntmps51
    go_wp2
    go_ret
    exact ⟨rfl, rfl⟩
  · have hr : k % (n : Int) = k.tmod n := by rw [he, if_neg hneg]
    rw [hr]
    clear hr he hb
    go_enter Try.func51, Try.ntmps51
    go_wp2
    go_ret
    exact ⟨rfl, rfl⟩

/-- ref1.Sorted: sorted, each once. -/
theorem sorted50 {A : Option Addr} {c : Nat} {l : List S} {w : World} (h : StrRow w A l) (hc : l.length ≤ c) (hn : l.length ≤ 1000000) :
    Calls Try.prog 50 #[.slice A l.length c] w fun e w' => ∃ A' c' r, e = .returned (.slice A' r.length c') ∧ r.length ≤ c' ∧ r.length ≤ l.length ∧ IsSrt l r ∧ StrRow w' A' r ∧ Below w.heap.size w w' := by
  obtain ⟨r, hres, hl, hE⟩ := srt_f l hn
  obtain ⟨k, hk⟩ := hE.rounds
  have hC := C_of_strs h (by omega)
  have := PQueryCalls.lanternref1_Sorted.calls k A c (l.map U) (r.map U) w (by simpa using hC) (by simpa using hc) hk
  simp only [List.length_map] at this
  refine this.mono ?_
  rintro ee w' ⟨vv, rfl, hR, hB⟩
  obtain ⟨A', c', rfl, hle, hCr⟩ := Kd.R_reads hR
  have hst := strsC' hCr
  rw [List.map_map, show (B ∘ U) = id from rfl, List.map_id] at hst
  exact ⟨A', c', r, by simp, by simpa using hle, hl, hres, hst, hB⟩
end Go.Proofs.Ytljfknneijmfoaa
