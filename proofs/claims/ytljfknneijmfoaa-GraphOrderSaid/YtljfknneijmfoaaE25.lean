import Derived.Test.YtljfknneijmfoaaTxt
namespace Go.Proofs.Ytljfknneijmfoaa
open Go.RowKit Go.Maps Go.WideMaps Go.Lib
open PQueryAsks

theorem edges_m0 (l : List (S × Int × S)) (hl : l.length ≤ 9223372036854775807) (hs : ∀ e ∈ l, e.1.length ≤ 9223372036854775807 ∧ e.2.2.length ≤ 9223372036854775807) : ∀ (m k i : Nat) (n : Int), l.length - i = m → i ≤ l.length → m + 5 < k → 0 ≤ n → n ≤ 9223372036854775807 →
    ∃ r, lanternalike_Edges.l0 k (l.map toQ50) 400 n (i : Int) = some r ∧ 0 ≤ r ∧ r ≤ 9223372036854775807 ∧ (r ≤ 400 → r = n + sizesE (l.drop i)) := by
  intro m
  induction m with
  | zero =>
    intro k i n hm hi hk h0 h1
    obtain ⟨k, rfl⟩ : ∃ k', k = k' + 1 := ⟨k - 1, by omega⟩
    have : i = l.length := by omega
    subst this
    refine ⟨n, ?_, h0, h1, fun _ => by simp [sizesE]⟩
    unfold lanternalike_Edges.l0
    rw [if_neg (by simp)]
  | succ m ih =>
    intro k i n hm hi hk h0 h1
    obtain ⟨k, rfl⟩ : ∃ k', k = k' + 1 := ⟨k - 1, by omega⟩
    have hlt : i < l.length := by omega
    have hrd : rd_T50 (l.map toQ50) (i : Int) = toQ50 l[i] := by simp [rd_T50, List.getD_eq_getElem?_getD, List.getElem?_eq_getElem hlt]
    have hsz := hs l[i] (List.getElem_mem hlt)
    have hf0 : ((toQ50 l[i]).f0.size : Int) = (l[i].1.length : Int) := by simp [toQ50, size_U]
    have hf2 : ((toQ50 l[i]).f2.size : Int) = (l[i].2.2.length : Int) := by simp [toQ50, size_U]
    unfold lanternalike_Edges.l0
    rw [if_pos (by simp; omega)]
    by_cases c : n ≤ 400
    · rw [if_pos c, if_pos (by omega), hrd, hf0, hf2]
      obtain ⟨t, ht, t0, t1, t2⟩ := sum_any k [(l[i].1.length : Int), (l[i].2.2.length : Int), 1] (by simp; omega) (by simp) n (by simp; omega) h0 h1
      rw [ht, Option.bind_some]
      rw [show wrap64 ((i : Int) + 1) = ((i + 1 : Nat) : Int) by unfold wrap64; omega]
      obtain ⟨r, hr, r0, r1, r2⟩ := ih k (i + 1) t (by omega) (by omega) (by omega) t0 t1
      refine ⟨r, hr, r0, r1, fun h => ?_⟩
      have h2 := r2 h
      have hnn : 0 ≤ sizesE (l.drop (i + 1)) := by
        unfold sizesE
        generalize l.drop (i + 1) = q
        induction q with
        | nil => simp
        | cons a q ih => simp; omega
      have h3 := t2 (by omega)
      simp at h3
      rw [List.drop_eq_getElem_cons hlt]
      unfold sizesE at h2 ⊢
      rw [List.map_cons, List.sum_cons]
      omega
    · rw [if_neg c]
      exact ⟨n, rfl, h0, h1, fun h => absurd h c⟩

theorem sizesE_length4 {l : List (S × Int × S)} (h : sizesE l ≤ 400) : l.length ≤ 400 ∧ ∀ e ∈ l, e.1.length ≤ 400 ∧ e.2.2.length ≤ 400 := by
  suffices hh : (l.length : Int) ≤ sizesE l ∧ ∀ e ∈ l, (e.1.length : Int) ≤ sizesE l ∧ (e.2.2.length : Int) ≤ sizesE l by
    exact ⟨by omega, fun s hs => by have := hh.2 s hs; omega⟩
  clear h
  unfold sizesE
  induction l with
  | nil => simp
  | cons a q ih =>
    obtain ⟨i1, i2⟩ := ih
    have : 0 ≤ (q.map fun e => (e.1.length : Int) + e.2.2.length + 1).sum := sizesE_nonneg q
    refine ⟨by simp only [List.length_cons, List.map_cons, List.sum_cons]; omega, fun s hs => ?_⟩
    simp only [List.map_cons, List.sum_cons]
    rcases List.mem_cons.1 hs with rfl | hs
    · omega
    · have := i2 s hs
      omega

/-- alike.Edges: how much there is. -/
theorem edges25 {A : Option Addr} {c : Nat} {es : List (S × Int × S)} {w : World} (h : es.length ≤ c ∧ c ≤ maxLen ∧ EdgeRow w A es ∧ ∀ e ∈ es, e.1.length ≤ maxLen ∧ e.2.2.length ≤ maxLen ∧ -9223372036854775808 ≤ e.2.1 ∧ e.2.1 ≤ 9223372036854775807) :
    Calls Try.prog 25 #[.slice A es.length c, .int .i64 400] w fun ee w' => ∃ z, ee = .returned (.int .i64 z) ∧ (z ≤ 400 → es.length ≤ 400 ∧ ∀ e ∈ es, e.1.length ≤ 400 ∧ e.2.2.length ≤ 400) ∧ Below w.heap.size w w' := by
  obtain ⟨h1, h2, h3, h4⟩ := h
  unfold maxLen at *
  obtain ⟨t2, e2, a2, b2, c2⟩ := edges_m0 es (by omega) (fun e he => ⟨(h4 e he).1, (h4 e he).2.1⟩) es.length (es.length + 20) 0 0 (by omega) (by omega) (by omega) (by omega) (by omega)
  have hr := C_of_edgesQ h3 (by omega)
  have := lanternalike_Edges.calls (es.length + 20) A c (es.map toQ50) 400 t2 w (by simpa using hr) (by simpa using h1) (by unfold lanternalike_Edges.f; exact e2)
  simp only [List.length_map] at this
  refine this.mono ?_
  rintro ee w' ⟨rfl, hB⟩
  refine ⟨t2, rfl, fun hz => ?_, hB⟩
  have h5 := c2 hz
  rw [List.drop_zero] at h5
  exact sizesE_length4 (by omega)
end Go.Proofs.Ytljfknneijmfoaa
