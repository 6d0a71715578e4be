import Derived.Test.YtljfknneijmfoaaMade
import Derived.Test.YtljfknneijmfoaaFq12
namespace Go.Proofs.Ytljfknneijmfoaa
open Go.RowKit Go.Maps Go.WideMaps
open Go.Proofs.YtljfknneijmfoaaW.PrintWords
open PQueryAsks (S50 z50 k50 rd_T50 k50_mk S74 z74 k74 rd_T74 k74_mk lanternalike_Sum.l0 lanternalike_Total.l0 lanternalike_Edges.l0 lanternlaw26_small.l0)

/-- An edge, as the texts printed for query have it. -/
def toQ50 (e : S × Int × S) : S50 := ⟨U e.1, e.2.1, U e.2.2⟩
def toQ74 (r : S × List Int) : S74 := ⟨U r.1, r.2⟩

theorem C_of_edgesQ {w : World} {A : Option Addr} {es : List (S × Int × S)} (h : EdgeRow w A es) (hn : es.length ≤ 9223372036854775807) : Kd.C k50 w A es.length (es.map toQ50) := by
  refine ⟨by simp, by omega, fun h0 => ?_⟩
  obtain ⟨ad, rfl, _⟩ := h 0 _ (List.getElem?_eq_getElem h0)
  refine ⟨ad, rfl, fun j p hp => ?_⟩
  rw [List.getElem?_map] at hp
  obtain ⟨e, he, rfl⟩ := Option.map_eq_some_iff.1 hp
  obtain ⟨ad', ea, c0, c1, c2⟩ := h j e he
  cases ea
  refine ⟨_, rfl, k50_mk w _, fun i u hu => ?_⟩
  show w.cell? (ad.add (j * 3 + i)) = some u
  match i, hu with
  | 0, hu => cases hu; exact c0
  | 1, hu => cases hu; rw [add_field _ _ 1 (by omega)]; exact c1
  | 2, hu => cases hu; rw [add_field _ _ 2 (by omega)]; exact c2

theorem C_of_strs {w : World} {A : Option Addr} {xs : List S} (h : StrRow w A xs) (hn : xs.length ≤ 9223372036854775807) : Kd.C Kd.string w A xs.length (xs.map U) := by
  refine ⟨by simp, by omega, fun h0 => ?_⟩
  obtain ⟨ad, rfl, _⟩ := h 0 _ (List.getElem?_eq_getElem h0)
  refine ⟨ad, rfl, fun j p hp => ?_⟩
  rw [List.getElem?_map] at hp
  obtain ⟨e, he, rfl⟩ := Option.map_eq_some_iff.1 hp
  obtain ⟨ad', ea, c0⟩ := h j e he
  cases ea
  refine ⟨_, rfl, rfl, fun i u hu => ?_⟩
  show w.cell? (ad.add (j * 1 + i)) = some u
  match i, hu with
  | 0, hu => cases hu; rw [Nat.mul_one]; exact c0

theorem C_of_ints {w : World} {A : Option Addr} {xs : List Int} (h : IntRow w A xs) (hn : xs.length ≤ 9223372036854775807) : Kd.C (Kd.int .i64) w A xs.length xs := by
  refine ⟨by simp, by omega, fun h0 => ?_⟩
  obtain ⟨ad, rfl, _⟩ := h 0 _ (List.getElem?_eq_getElem h0)
  refine ⟨ad, rfl, fun j p hp => ?_⟩
  obtain ⟨ad', ea, c0⟩ := h j p hp
  cases ea
  refine ⟨_, rfl, rfl, fun i u hu => ?_⟩
  show w.cell? (ad.add (j * 1 + i)) = some u
  match i, hu with
  | 0, hu => cases hu; rw [Nat.mul_one]; exact c0

theorem C_of_sets {w : World} {A : Option Addr} {rows : List (S × List Int)} (h : SetRow w A rows) (hn : rows.length ≤ 9223372036854775807) (hl : ∀ r ∈ rows, r.2.length ≤ 9223372036854775807) : Kd.C k74 w A rows.length (rows.map toQ74) := by
  refine ⟨by simp, by omega, fun h0 => ?_⟩
  obtain ⟨ad, _, _, rfl, _⟩ := h 0 _ (List.getElem?_eq_getElem h0)
  refine ⟨ad, rfl, fun j p hp => ?_⟩
  rw [List.getElem?_map] at hp
  obtain ⟨r, hr, rfl⟩ := Option.map_eq_some_iff.1 hp
  obtain ⟨ad', Ai, ci, ea, c0, c1, hle, hI⟩ := h j r hr
  cases ea
  refine ⟨_, rfl, k74_mk w (toQ74 r) hle (C_of_ints hI (hl r (List.mem_of_getElem? hr))), fun i u hu => ?_⟩
  show w.cell? (ad.add (j * 2 + i)) = some u
  match i, hu with
  | 0, hu => cases hu; exact c0
  | 1, hu => cases hu; rw [add_field _ _ 1 (by omega)]; exact c1

theorem sum_l0 (xs : List Int) (hx : ∀ x ∈ xs, 0 ≤ x ∧ x ≤ 9223372036854775807) (hl : xs.length ≤ 1000) : ∀ (m k i : Nat) (n : Int), xs.length - i = m → i ≤ xs.length → m < k → 0 ≤ n → n ≤ 9223372036854775807 →
    ∃ r, lanternalike_Sum.l0 k n xs (i : Int) = some r ∧ 0 ≤ r ∧ r ≤ 9223372036854775807 ∧ (r ≤ 2000 → r = n + (xs.drop i).sum) := by
  intro m
  induction m with
  | zero =>
    intro k i n hm hi hk h0 h1
    obtain ⟨k, rfl⟩ : ∃ k', k = k' + 1 := ⟨k - 1, by omega⟩
    have : i = xs.length := by omega
    subst this
    refine ⟨n, ?_, h0, h1, fun _ => by simp⟩
    unfold lanternalike_Sum.l0
    rw [if_neg (by omega)]
  | succ m ih =>
    intro k i n hm hi hk h0 h1
    obtain ⟨k, rfl⟩ : ∃ k', k = k' + 1 := ⟨k - 1, by omega⟩
    have hlt : i < xs.length := by omega
    have hrd : Go.Proofs.YtljfknneijmfoaaW.PrintWords.rd xs (i : Int) = xs[i] := by simp [Go.Proofs.YtljfknneijmfoaaW.PrintWords.rd, List.getD_eq_getElem?_getD, List.getElem?_eq_getElem hlt]
    obtain ⟨hx0, hx1⟩ := hx xs[i] (List.getElem_mem hlt)
    unfold lanternalike_Sum.l0
    rw [if_pos (by omega), hrd]
    by_cases c : n > 1099511627776
    · exact ⟨1099511627776, by rw [if_pos c], by omega, by omega, by omega⟩
    · rw [if_neg c, if_pos (by omega)]
      rw [show wrap64 (1099511627776 - n) = 1099511627776 - n by unfold wrap64; omega]
      by_cases c2 : xs[i] > 1099511627776 - n
      · exact ⟨1099511627776, by rw [if_pos c2], by omega, by omega, by omega⟩
      · rw [if_neg c2]
        rw [show wrap64 (n + xs[i]) = n + xs[i] by unfold wrap64; omega, show wrap64 ((i : Int) + 1) = ((i + 1 : Nat) : Int) by unfold wrap64; omega]
        obtain ⟨r, hr, r0, r1, r2⟩ := ih k (i + 1) (n + xs[i]) (by omega) (by omega) (by omega) (by omega) (by omega)
        refine ⟨r, hr, r0, r1, fun h => ?_⟩
        rw [List.drop_eq_getElem_cons hlt, List.sum_cons, r2 h]
        omega

theorem sum_any (k : Nat) (xs : List Int) (hx : ∀ x ∈ xs, 0 ≤ x ∧ x ≤ 9223372036854775807) (hl : xs.length ≤ 1000) (n : Int) (hk : xs.length < k) (h0 : 0 ≤ n) (h1 : n ≤ 9223372036854775807) :
    ∃ r, PQueryAsks.lanternalike_Sum.f k n xs = some r ∧ 0 ≤ r ∧ r ≤ 9223372036854775807 ∧ (r ≤ 2000 → r = n + xs.sum) := by
  unfold PQueryAsks.lanternalike_Sum.f
  exact sum_l0 xs hx hl xs.length k 0 n (by omega) (by omega) hk h0 h1

/-- The bytes of texts, and one for each. -/
def sizes (l : List S) : Int := (l.map fun s => (s.length : Int) + 1).sum
def sizesE (l : List (S × Int × S)) : Int := (l.map fun e => (e.1.length : Int) + e.2.2.length + 1).sum
def sizesR (l : List (S × List Int)) : Int := (l.map fun r => (r.1.length : Int) + r.2.length + 1).sum

theorem total_l0 (l : List S) (hl : l.length ≤ 9223372036854775807) (hs : ∀ s ∈ l, s.length ≤ 9223372036854775807) : ∀ (m k i : Nat) (n : Int), l.length - i = m → i ≤ l.length → m + 4 < k → 0 ≤ n → n ≤ 9223372036854775807 →
    ∃ r, lanternalike_Total.l0 k (l.map U) 2000 n (i : Int) = some r ∧ 0 ≤ r ∧ r ≤ 9223372036854775807 ∧ (r ≤ 2000 → r = n + sizes (l.drop i)) := by
  intro m
  induction m with
  | zero =>
    intro k i n hm hi hk h0 h1
    obtain ⟨k, rfl⟩ : ∃ k', k = k' + 1 := ⟨k - 1, by omega⟩
    have : i = l.length := by omega
    subst this
    refine ⟨n, ?_, h0, h1, fun _ => by simp [sizes]⟩
    unfold lanternalike_Total.l0
    rw [if_neg (by simp)]
  | succ m ih =>
    intro k i n hm hi hk h0 h1
    obtain ⟨k, rfl⟩ : ∃ k', k = k' + 1 := ⟨k - 1, by omega⟩
    have hlt : i < l.length := by omega
    have hrd : rdOf ByteArray.empty (l.map U) (i : Int) = U l[i] := by simp [rdOf, List.getD_eq_getElem?_getD, List.getElem?_eq_getElem hlt]
    have hsz := hs l[i] (List.getElem_mem hlt)
    unfold lanternalike_Total.l0
    rw [if_pos (by simp; omega)]
    by_cases c : n ≤ 2000
    · rw [if_pos c, if_pos (by omega), hrd, size_U]
      obtain ⟨t, ht, t0, t1, t2⟩ := sum_any k [(l[i].length : Int), 1] (by simp; omega) (by simp) n (by simp; omega) h0 h1
      rw [ht, Option.bind_some]
      rw [show wrap64 ((i : Int) + 1) = ((i + 1 : Nat) : Int) by unfold wrap64; omega]
      obtain ⟨r, hr, r0, r1, r2⟩ := ih k (i + 1) t (by omega) (by omega) (by omega) t0 t1
      refine ⟨r, hr, r0, r1, fun h => ?_⟩
      have h2 := r2 h
      have hnn : 0 ≤ sizes (l.drop (i + 1)) := by
        unfold sizes
        generalize l.drop (i + 1) = q
        induction q with
        | nil => simp
        | cons a q ih => simp; omega
      have h3 := t2 (by omega)
      simp at h3
      rw [List.drop_eq_getElem_cons hlt]
      unfold sizes at h2 ⊢
      rw [List.map_cons, List.sum_cons]
      omega
    · rw [if_neg c]
      exact ⟨n, rfl, h0, h1, fun h => absurd h c⟩

theorem edges_l0 (l : List (S × Int × S)) (hl : l.length ≤ 9223372036854775807) (hs : ∀ e ∈ l, e.1.length ≤ 9223372036854775807 ∧ e.2.2.length ≤ 9223372036854775807) : ∀ (m k i : Nat) (n : Int), l.length - i = m → i ≤ l.length → m + 5 < k → 0 ≤ n → n ≤ 9223372036854775807 →
    ∃ r, lanternalike_Edges.l0 k (l.map toQ50) 2000 n (i : Int) = some r ∧ 0 ≤ r ∧ r ≤ 9223372036854775807 ∧ (r ≤ 2000 → r = n + sizesE (l.drop i)) := by
  intro m
  induction m with
  | zero =>
    intro k i n hm hi hk h0 h1
    obtain ⟨k, rfl⟩ : ∃ k', k = k' + 1 := ⟨k - 1, by omega⟩
    have : i = l.length := by omega
    subst this
    refine ⟨n, ?_, h0, h1, fun _ => by simp [sizesE]⟩
    unfold lanternalike_Edges.l0
    rw [if_neg (by simp)]
  | succ m ih =>
    intro k i n hm hi hk h0 h1
    obtain ⟨k, rfl⟩ : ∃ k', k = k' + 1 := ⟨k - 1, by omega⟩
    have hlt : i < l.length := by omega
    have hrd : rd_T50 (l.map toQ50) (i : Int) = toQ50 l[i] := by simp [rd_T50, List.getD_eq_getElem?_getD, List.getElem?_eq_getElem hlt]
    have hsz := hs l[i] (List.getElem_mem hlt)
    have hf0 : ((toQ50 l[i]).f0.size : Int) = (l[i].1.length : Int) := by simp [toQ50, size_U]
    have hf2 : ((toQ50 l[i]).f2.size : Int) = (l[i].2.2.length : Int) := by simp [toQ50, size_U]
    unfold lanternalike_Edges.l0
    rw [if_pos (by simp; omega)]
    by_cases c : n ≤ 2000
    · rw [if_pos c, if_pos (by omega), hrd, hf0, hf2]
      obtain ⟨t, ht, t0, t1, t2⟩ := sum_any k [(l[i].1.length : Int), (l[i].2.2.length : Int), 1] (by simp; omega) (by simp) n (by simp; omega) h0 h1
      rw [ht, Option.bind_some]
      rw [show wrap64 ((i : Int) + 1) = ((i + 1 : Nat) : Int) by unfold wrap64; omega]
      obtain ⟨r, hr, r0, r1, r2⟩ := ih k (i + 1) t (by omega) (by omega) (by omega) t0 t1
      refine ⟨r, hr, r0, r1, fun h => ?_⟩
      have h2 := r2 h
      have hnn : 0 ≤ sizesE (l.drop (i + 1)) := by
        unfold sizesE
        generalize l.drop (i + 1) = q
        induction q with
        | nil => simp
        | cons a q ih => simp; omega
      have h3 := t2 (by omega)
      simp at h3
      rw [List.drop_eq_getElem_cons hlt]
      unfold sizesE at h2 ⊢
      rw [List.map_cons, List.sum_cons]
      omega
    · rw [if_neg c]
      exact ⟨n, rfl, h0, h1, fun h => absurd h c⟩

theorem small_l0 (a0 : ByteArray) (q1 : List ByteArray) (q3 : List S50) (q4 q5 : List ByteArray) (l : List (S × List Int)) (hl : l.length ≤ 9223372036854775807) (hs : ∀ r ∈ l, r.1.length ≤ 9223372036854775807 ∧ r.2.length ≤ 9223372036854775807) :
    ∀ (m k i : Nat) (n : Int), l.length - i = m → i ≤ l.length → m + 5 < k → 0 ≤ n → n ≤ 9223372036854775807 →
    ∃ b, lanternlaw26_small.l0 k n (i : Int) a0 q1 (l.map toQ74) q3 q4 q5 = some b ∧ (b = true → n + sizesR (l.drop i) ≤ 2000) := by
  intro m
  induction m with
  | zero =>
    intro k i n hm hi hk h0 h1
    obtain ⟨k, rfl⟩ : ∃ k', k = k' + 1 := ⟨k - 1, by omega⟩
    have : i = l.length := by omega
    subst this
    refine ⟨decide (n ≤ 2000), ?_, fun h => by simpa [sizesR] using h⟩
    unfold lanternlaw26_small.l0
    rw [if_neg (by simp)]
  | succ m ih =>
    intro k i n hm hi hk h0 h1
    obtain ⟨k, rfl⟩ : ∃ k', k = k' + 1 := ⟨k - 1, by omega⟩
    have hlt : i < l.length := by omega
    have hrd : rd_T74 (l.map toQ74) (i : Int) = toQ74 l[i] := by simp [rd_T74, List.getD_eq_getElem?_getD, List.getElem?_eq_getElem hlt]
    have hsz := hs l[i] (List.getElem_mem hlt)
    have hf0 : ((toQ74 l[i]).f0.size : Int) = (l[i].1.length : Int) := by simp [toQ74, size_U]
    have hf1 : ((toQ74 l[i]).f1.length : Int) = (l[i].2.length : Int) := by simp [toQ74]
    unfold lanternlaw26_small.l0
    rw [if_pos (by simp; omega)]
    by_cases c : n ≤ 2000
    · rw [if_pos c, if_pos (by omega), hrd, hf0, hf1]
      obtain ⟨t, ht, t0, t1, t2⟩ := sum_any k [(l[i].1.length : Int), (l[i].2.length : Int), 1] (by simp; omega) (by simp) n (by simp; omega) h0 h1
      rw [ht, Option.bind_some]
      rw [show wrap64 ((i : Int) + 1) = ((i + 1 : Nat) : Int) by unfold wrap64; omega]
      obtain ⟨b, hb, r2⟩ := ih k (i + 1) t (by omega) (by omega) (by omega) t0 t1
      refine ⟨b, hb, fun h => ?_⟩
      have h2 := r2 h
      have hnn : 0 ≤ sizesR (l.drop (i + 1)) := by
        unfold sizesR
        generalize l.drop (i + 1) = q
        induction q with
        | nil => simp
        | cons a q ih => simp; omega
      have h3 := t2 (by omega)
      simp at h3
      rw [List.drop_eq_getElem_cons hlt]
      unfold sizesR at h2 ⊢
      rw [List.map_cons, List.sum_cons]
      omega
    · rw [if_neg c]
      exact ⟨_, rfl, fun h => by simp at h; omega⟩

/-- A report that is looked at. -/
structure Small (e : S) (sites : List S) (rows : List (S × List Int)) (es : List (S × Int × S)) (reach inits : List S) : Prop where
  entry : e.length ≤ 2000
  sites : sizes sites ≤ 2000
  rows : sizesR rows ≤ 2000
  edges : sizesE es ≤ 2000

theorem sizes_nonneg (l : List S) : 0 ≤ sizes l := by
  unfold sizes
  induction l with
  | nil => simp
  | cons a q ih => simp; omega
theorem sizesE_nonneg (l : List (S × Int × S)) : 0 ≤ sizesE l := by
  unfold sizesE
  induction l with
  | nil => simp
  | cons a q ih => simp; omega
theorem sizesR_nonneg (l : List (S × List Int)) : 0 ≤ sizesR l := by
  unfold sizesR
  induction l with
  | nil => simp
  | cons a q ih => simp; omega

theorem small12 (e : S) (As : Option Addr) (sites : List S) (cs : Nat) (Ar : Option Addr) (rows : List (S × List Int)) (cr : Nat) (Ae : Option Addr) (es : List (S × Int × S)) (ce : Nat) (Ah : Option Addr) (reach : List S) (ch : Nat) (Ai : Option Addr) (inits : List S) (ci : Nat) (w : World)
    (he : e.length ≤ maxLen) (h1 : sites.length ≤ cs ∧ cs ≤ maxLen ∧ StrRow w As sites ∧ ∀ y ∈ sites, y.length ≤ maxLen)
    (h2 : rows.length ≤ cr ∧ cr ≤ maxLen ∧ SetRow w Ar rows ∧ ∀ r ∈ rows, r.1.length ≤ maxLen ∧ r.2.length ≤ maxLen ∧ ∀ z ∈ r.2, -9223372036854775808 ≤ z ∧ z ≤ 9223372036854775807)
    (h3 : es.length ≤ ce ∧ ce ≤ maxLen ∧ EdgeRow w Ae es ∧ ∀ e ∈ es, e.1.length ≤ maxLen ∧ e.2.2.length ≤ maxLen ∧ -9223372036854775808 ≤ e.2.1 ∧ e.2.1 ≤ 9223372036854775807)
    (h4 : reach.length ≤ ch ∧ ch ≤ maxLen ∧ StrRow w Ah reach ∧ ∀ y ∈ reach, y.length ≤ maxLen)
    (h5 : inits.length ≤ ci ∧ ci ≤ maxLen ∧ StrRow w Ai inits ∧ ∀ y ∈ inits, y.length ≤ maxLen) :
    Calls Try.prog 12 #[.agg (repV e As sites.length cs Ar rows.length cr (.slice Ae es.length ce) (.slice Ah reach.length ch) (.slice Ai inits.length ci))] w fun ee w' => ∃ b, ee = .returned (.bool b) ∧ (b = true → Small e sites rows es reach inits) ∧ Below w.heap.size w w' := by
  unfold maxLen at *
  obtain ⟨h11, h12, h13, h14⟩ := h1
  obtain ⟨h21, h22, h23, h24⟩ := h2
  obtain ⟨h31, h32, h33, h34⟩ := h3
  obtain ⟨h41, h42, h43, h44⟩ := h4
  obtain ⟨h51, h52, h53, h54⟩ := h5
  obtain ⟨K, hK⟩ : ∃ K, K = sites.length + es.length + reach.length + inits.length + rows.length + 20 := ⟨_, rfl⟩
  obtain ⟨t1, e1, a1, b1, c1⟩ := total_l0 sites (by omega) h14 sites.length K 0 0 (by omega) (by omega) (by omega) (by omega) (by omega)
  obtain ⟨t2, e2, a2, b2, c2⟩ := edges_l0 es (by omega) (fun e he => ⟨(h34 e he).1, (h34 e he).2.1⟩) es.length K 0 0 (by omega) (by omega) (by omega) (by omega) (by omega)
  obtain ⟨t3, e3, a3, b3, c3⟩ := total_l0 reach (by omega) h44 reach.length K 0 0 (by omega) (by omega) (by omega) (by omega) (by omega)
  obtain ⟨t4, e4, a4, b4, c4⟩ := total_l0 inits (by omega) h54 inits.length K 0 0 (by omega) (by omega) (by omega) (by omega) (by omega)
  obtain ⟨t5, e5, a5, b5, c5⟩ := sum_any K [t1, t2, t3, t4] (by simp; omega) (by simp) (e.length : Int) (by simp; omega) (by omega) (by omega)
  obtain ⟨b, eb, cb⟩ := small_l0 (U e) (sites.map U) (es.map toQ50) (reach.map U) (inits.map U) rows (by omega) (fun r hr => ⟨(h24 r hr).1, (h24 r hr).2.1⟩) rows.length K 0 t5 (by omega) (by omega) (by omega) a5 b5
  have hf : PQueryAsks.lanternlaw26_small.f K (U e) (sites.map U) (rows.map toQ74) (es.map toQ50) (reach.map U) (inits.map U) = some b := by
    unfold PQueryAsks.lanternlaw26_small.f PQueryAsks.lanternalike_Total.f PQueryAsks.lanternalike_Edges.f
    rw [show ((0 : Nat) : Int) = 0 from rfl] at e1 e2 e3 e4 eb
    rw [e1, Option.bind_some, e2, Option.bind_some, e3, Option.bind_some, e4, Option.bind_some, size_U, e5, Option.bind_some, eb]
  have hr0_1 := C_of_strs h13 (by omega)
  have hr0_2 := C_of_sets h23 (by omega) (fun r hr => (h24 r hr).2.1)
  have hr0_3 := C_of_edgesQ h33 (by omega)
  have hr0_4 := C_of_strs h43 (by omega)
  have hr0_5 := C_of_strs h53 (by omega)
  have := PQueryAsks.lanternlaw26_small.calls K (U e) As cs (sites.map U) Ar cr (rows.map toQ74) Ae ce (es.map toQ50) Ah ch (reach.map U) Ai ci (inits.map U) b w (by simpa using hr0_1) (by simpa using h11) (by simpa using hr0_2) (by simpa using h21) (by simpa using hr0_3) (by simpa using h31) (by simpa using hr0_4) (by simpa using h41) (by simpa using hr0_5) (by simpa using h51) hf
  simp only [List.length_map] at this
  refine this.mono ?_
  rintro ee w' ⟨rfl, hB⟩
  refine ⟨b, rfl, fun hb => ?_, hB⟩
  have hrow := cb hb
  rw [List.drop_zero] at hrow c1 c2 c3 c4
  have p1 := sizes_nonneg sites
  have p2 := sizesE_nonneg es
  have p3 := sizesR_nonneg rows
  have s5 := c5 (by omega)
  simp at s5
  exact ⟨by omega, by have := c1 (by omega); omega, by omega, by have := c2 (by omega); omega⟩

end Go.Proofs.Ytljfknneijmfoaa
