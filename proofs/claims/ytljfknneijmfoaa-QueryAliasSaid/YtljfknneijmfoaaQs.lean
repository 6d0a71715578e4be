import Derived.Test.YtljfknneijmfoaaSmall
import Derived.Test.YtljfknneijmfoaaFq19
namespace Go.Proofs.Ytljfknneijmfoaa
open Go.RowKit Go.Maps Go.WideMaps
open Go.Proofs.YtljfknneijmfoaaW.PrintWords

theorem in_l0 (l : List S) (x : S) (hl : l.length ≤ 9223372036854775807) : ∀ (m k i : Nat), l.length - i = m → i ≤ l.length → m < k →
    ∃ r, PQueryAsks.lanternref1_in.l0 k (l.map U) (U x) (i : Int) = some r ∧ (0 ≤ r ↔ x ∈ l.drop i) := by
  intro m
  induction m with
  | zero =>
    intro k i hm hi hk
    obtain ⟨k, rfl⟩ : ∃ k', k = k' + 1 := ⟨k - 1, by omega⟩
    have : i = l.length := by omega
    subst this
    refine ⟨-1, ?_, by simp⟩
    unfold PQueryAsks.lanternref1_in.l0
    rw [if_neg (by simp)]
  | succ m ih =>
    intro k i hm hi hk
    obtain ⟨k, rfl⟩ : ∃ k', k = k' + 1 := ⟨k - 1, by omega⟩
    have hlt : i < l.length := by omega
    have hrd : rdOf ByteArray.empty (l.map U) (i : Int) = U l[i] := by simp [rdOf, List.getD_eq_getElem?_getD, List.getElem?_eq_getElem hlt]
    unfold PQueryAsks.lanternref1_in.l0
    rw [if_pos (by simp; omega), if_pos (by omega), hrd, toList_U, toList_U]
    rw [List.drop_eq_getElem_cons hlt]
    by_cases c : l[i] = x
    · refine ⟨(i : Int), by rw [if_pos c], ?_⟩
      rw [c]
      simp
    · rw [if_neg c, show wrap64 ((i : Int) + 1) = ((i + 1 : Nat) : Int) by unfold wrap64; omega]
      obtain ⟨r, hr, h⟩ := ih k (i + 1) (by omega) (by omega) (by omega)
      refine ⟨r, hr, h.trans ?_⟩
      rw [List.mem_cons]
      exact ⟨fun h => .inr h, fun h => h.resolve_left (fun e => c e.symm)⟩

/-- lanternref1.Has of a row of strings. -/
theorem has19 {A : Option Addr} {c : Nat} {l : List S} {w : World} (h : StrRow w A l) (hc : l.length ≤ c) (hl : l.length ≤ 1000000) (x : S) :
    Calls Try.prog 19 #[.slice A l.length c, .string (U x)] w fun e w' => e = .returned (.bool (l.contains x)) ∧ Below w.heap.size w w' := by
  obtain ⟨r, hr, hx⟩ := in_l0 l x (by omega) l.length (l.length + 1) 0 (by omega) (by omega) (by omega)
  rw [List.drop_zero] at hx
  have hf : PQueryAsks.lanternref1_Has.f (l.length + 1) (l.map U) (U x) = some (l.contains x) := by
    unfold PQueryAsks.lanternref1_Has.f PQueryAsks.lanternref1_in.f
    rw [show ((0 : Nat) : Int) = 0 from rfl] at hr
    rw [hr, Option.bind_some]
    congr 1
    rw [Bool.eq_iff_iff, decide_eq_true_eq, List.contains_iff_mem, ← hx]
  have hC := C_of_strs h (by omega)
  have := PQueryAsks.lanternref1_Has.calls (l.length + 1) A c (l.map U) (U x) _ w (by simpa using hC) (by simpa using hc) hf
  simp only [List.length_map] at this
  exact this.mono fun _ _ ⟨h1, h2⟩ => ⟨h1, h2.below⟩

/-- lanternalike.Sum of a row. -/
theorem sum13 {A : Option Addr} {c : Nat} {n : Int} {xs : List Int} {w : World} (h : IntRow w A xs) (hc : xs.length ≤ c) (hl : xs.length ≤ 1000) (hx : ∀ x ∈ xs, 0 ≤ x ∧ x ≤ 9223372036854775807) (h0 : 0 ≤ n) (h1 : n ≤ 9223372036854775807) :
    Calls Try.prog 13 #[.int .i64 n, .slice A xs.length c] w fun e w' => ∃ r, e = .returned (.int .i64 r) ∧ 0 ≤ r ∧ r ≤ 9223372036854775807 ∧ (r ≤ 2000 → r = n + xs.sum) ∧ Below w.heap.size w w' := by
  obtain ⟨r, hr, r0, r1, r2⟩ := sum_any (xs.length + 1) xs hx hl n (by omega) h0 h1
  exact (PQueryAsks.lanternalike_Sum.calls (xs.length + 1) n A c xs r w (C_of_ints h (by omega)) hc hr).mono fun _ _ ⟨h1, h2⟩ => ⟨r, h1, r0, r1, r2, h2.below⟩

theorem sizes_length {l : List S} (h : sizes l ≤ 2000) : l.length ≤ 2000 ∧ ∀ s ∈ l, s.length ≤ 2000 := by
  suffices hh : (l.length : Int) ≤ sizes l ∧ ∀ s ∈ l, (s.length : Int) ≤ sizes l by
    exact ⟨by omega, fun s hs => by have := hh.2 s hs; omega⟩
  clear h
  unfold sizes
  induction l with
  | nil => simp
  | cons a q ih =>
    obtain ⟨i1, i2⟩ := ih
    refine ⟨by simp only [List.length_cons, List.map_cons, List.sum_cons]; omega, fun s hs => ?_⟩
    simp only [List.map_cons, List.sum_cons]
    rcases List.mem_cons.1 hs with rfl | hs
    · have : 0 ≤ (q.map fun s => (s.length : Int) + 1).sum := sizes_nonneg q
      omega
    · have := i2 s hs
      omega

theorem sizesE_length {l : List (S × Int × S)} (h : sizesE l ≤ 2000) : l.length ≤ 2000 ∧ ∀ e ∈ l, e.1.length ≤ 2000 ∧ e.2.2.length ≤ 2000 := by
  suffices hh : (l.length : Int) ≤ sizesE l ∧ ∀ e ∈ l, (e.1.length : Int) ≤ sizesE l ∧ (e.2.2.length : Int) ≤ sizesE l by
    exact ⟨by omega, fun s hs => by have := hh.2 s hs; omega⟩
  clear h
  unfold sizesE
  induction l with
  | nil => simp
  | cons a q ih =>
    obtain ⟨i1, i2⟩ := ih
    have : 0 ≤ (q.map fun e => (e.1.length : Int) + e.2.2.length + 1).sum := sizesE_nonneg q
    refine ⟨by simp only [List.length_cons, List.map_cons, List.sum_cons]; omega, fun s hs => ?_⟩
    simp only [List.map_cons, List.sum_cons]
    rcases List.mem_cons.1 hs with rfl | hs
    · omega
    · have := i2 s hs
      omega

theorem sizesR_length {l : List (S × List Int)} (h : sizesR l ≤ 2000) : l.length ≤ 2000 ∧ (∀ r ∈ l, r.1.length ≤ 2000 ∧ r.2.length ≤ 2000) ∧ ∀ ns v j, (picks ns v (l.take j)).length ≤ 2000 := by
  suffices hh : (l.length : Int) ≤ sizesR l ∧ (∀ e ∈ l, (e.1.length : Int) ≤ sizesR l ∧ (e.2.length : Int) ≤ sizesR l) ∧ ∀ ns v j, ((picks ns v (l.take j)).length : Int) ≤ sizesR l by
    exact ⟨by omega, fun s hs => by have := hh.2.1 s hs; omega, fun ns v j => by have := hh.2.2 ns v j; omega⟩
  clear h
  unfold sizesR
  induction l with
  | nil => simp [picks]
  | cons a q ih =>
    obtain ⟨i1, i2, i3⟩ := ih
    have : 0 ≤ (q.map fun e => (e.1.length : Int) + e.2.length + 1).sum := sizesR_nonneg q
    refine ⟨by simp only [List.length_cons, List.map_cons, List.sum_cons]; omega, fun s hs => ?_, fun ns v j => ?_⟩
    · simp only [List.map_cons, List.sum_cons]
      rcases List.mem_cons.1 hs with rfl | hs
      · omega
      · have := i2 s hs
        omega
    · simp only [List.map_cons, List.sum_cons]
      cases j with
      | zero => simp [picks]; omega
      | succ j =>
        have h3 := i3 ns v j
        have h4 : (picks ns v ((a :: q).take (j + 1))).length = (if a.1 = v then a.2.filter (isSite ns) else []).length + (picks ns v (q.take j)).length := by
          simp [picks]
        have h5 : (if a.1 = v then a.2.filter (isSite ns) else []).length ≤ a.2.length := by
          split
          · exact List.length_filter_le _ _
          · simp
        omega

/-- Have two variables one number? -/
def aliasB (ns : Nat) (rows : List (S × List Int)) (a b : S) : Bool := (picks ns a rows).any fun z => (picks ns b rows).contains z

theorem aliasB_iff {ns : Nat} {rows : List (S × List Int)} {a b : S} : aliasB ns rows a b = true ↔ ∃ z, z ∈ picks ns a rows ∧ z ∈ picks ns b rows := by
  unfold aliasB
  rw [List.any_eq_true]
  exact ⟨fun ⟨z, h, h'⟩ => ⟨z, h, List.contains_iff_mem.1 h'⟩, fun ⟨z, h, h'⟩ => ⟨z, h, List.contains_iff_mem.2 h'⟩⟩

theorem aliasB_symm (ns : Nat) (rows : List (S × List Int)) (a b : S) : aliasB ns rows a b = aliasB ns rows b a := by
  rw [Bool.eq_iff_iff, aliasB_iff, aliasB_iff]
  exact ⟨fun ⟨z, h, h'⟩ => ⟨z, h', h⟩, fun ⟨z, h, h'⟩ => ⟨z, h', h⟩⟩

theorem aliasB_self {ns : Nat} {rows : List (S × List Int)} {a : S} : aliasB ns rows a a = true ↔ picks ns a rows ≠ [] := by
  rw [aliasB_iff]
  constructor
  · rintro ⟨z, h, _⟩ e
    rw [e] at h
    cases h
  · intro h
    obtain ⟨z, hz⟩ := List.exists_mem_of_ne_nil _ h
    exact ⟨z, hz, hz⟩

/-- Who holds a site: each once that does. -/
theorem mem_whoOf {sites : List S} {rows : List (S × List Int)} {site v : S} {l : List (S × List Int)} : v ∈ whoOf sites rows site l ↔ (∃ r ∈ l, r.1 = v) ∧ holdsSite sites rows site v = true := by
  unfold whoOf
  suffices h : ∀ acc : List S, v ∈ l.foldl (fun acc r => if holdsSite sites rows site r.1 && ! acc.contains r.1 then acc ++ [r.1] else acc) acc ↔ v ∈ acc ∨ ((∃ r ∈ l, r.1 = v) ∧ holdsSite sites rows site v = true) by
    rw [h]; simp
  induction l with
  | nil => intro acc; simp
  | cons r l ih =>
    intro acc
    rw [List.foldl_cons, ih]
    constructor
    · rintro (h | ⟨⟨q, hq, e⟩, h⟩)
      · split at h
        · rename_i hc
          rw [Bool.and_eq_true] at hc
          rcases List.mem_append.1 h with h | h
          · exact .inl h
          · rw [List.mem_singleton] at h
            subst h
            exact .inr ⟨⟨r, by simp, rfl⟩, hc.1⟩
        · exact .inl h
      · exact .inr ⟨⟨q, List.mem_cons_of_mem _ hq, e⟩, h⟩
    · rintro (h | ⟨⟨q, hq, e⟩, h⟩)
      · left
        split
        · exact List.mem_append_left _ h
        · exact h
      · rcases List.mem_cons.1 hq with rfl | hq
        · left
          subst e
          by_cases hc : acc.contains q.1 = true
          · rw [hc, h]
            simpa using hc
          · have hc : acc.contains q.1 = false := by simpa using hc
            rw [hc, h]
            simp
        · exact .inr ⟨⟨q, hq, e⟩, h⟩

theorem holds_row {sites : List S} {rows : List (S × List Int)} {site v : S} (h : holdsSite sites rows site v = true) : ∃ r ∈ rows, r.1 = v := by
  unfold holdsSite at h
  rw [List.any_eq_true] at h
  obtain ⟨z, hz, _⟩ := h
  obtain ⟨⟨r, hr, e, _⟩, _⟩ := mem_picks.1 hz
  exact ⟨r, hr, e⟩

theorem contains_who {sites : List S} {rows : List (S × List Int)} {site a : S} (h : holdsSite sites rows site a = true) : (whoOf sites rows site rows).contains a = true := by
  rw [List.contains_iff_mem, mem_whoOf]
  exact ⟨holds_row h, h⟩

/-- A report that lies in a block, and what it leads to. -/
theorem keep6 {w1 w' : World} {b : Nat} {c0 c1 c2 c3 c4 c5 : Value} {t : TypeId} (hb : w1.heap[b]? = some (.cells #[c0, c1, c2, c3, c4, c5] t)) (h : Below w1.heap.size w1 w') :
    Below w1.heap.size w1 w' ∧ w'.cell? ⟨b, 0, none⟩ = some c0 ∧ w'.cell? ⟨b, 1, none⟩ = some c1 ∧ w'.cell? ⟨b, 2, none⟩ = some c2 ∧ w'.cell? ⟨b, 3, none⟩ = some c3 ∧ w'.cell? ⟨b, 4, none⟩ = some c4 ∧ w'.cell? ⟨b, 5, none⟩ = some c5 := by
  have hlt : b < w1.heap.size := (Array.getElem?_eq_some_iff.1 hb).1
  have hc := (h.block b hlt).trans hb
  exact ⟨h, cell_of_block (j := 0) hc rfl, cell_of_block (j := 1) hc rfl, cell_of_block (j := 2) hc rfl, cell_of_block (j := 3) hc rfl, cell_of_block (j := 4) hc rfl, cell_of_block (j := 5) hc rfl⟩

section
variable (e : S) (As : Option Addr) (cs : Nat) (Ar : Option Addr) (cr : Nat) (x3 x4 x5 : Value) (rows : List (S × List Int)) (sites : List S) (w : World)
variable (hS : StrRow w As sites) (hR : SetRow w Ar rows) (hsz : sizesR rows ≤ 2000)
include hS hR hsz

omit hS in
/-- Alias, over all that came behind. -/
theorem aliasW (a b : S) (t : Bool) (ht : aliasB sites.length rows a b = t) (W : World) (hB : Below w.heap.size w W) :
    Calls Try.prog 16 #[.agg (repV e As sites.length cs Ar rows.length cr x3 x4 x5), .string (U a), .string (U b)] W fun e w' => e = .returned (.bool t) ∧ Below w.heap.size w w' := by
  obtain ⟨h1, h2, h3⟩ := sizesR_length hsz
  refine (alias16 e As sites.length cs Ar cr x3 x4 x5 rows a b W (hR.below hB (Nat.le_refl _)) (by omega) (fun j => by have := h3 sites.length a j; omega) (fun j => by have := h3 sites.length b j; omega) (fun r hr => by have := h2 r hr; omega)).mono ?_
  rintro ee w' ⟨t', rfl, ht', hB'⟩
  refine ⟨?_, hB.trans (hB'.mono hB.size)⟩
  have : t' = t := by rw [← ht, Bool.eq_iff_iff, ht', aliasB_iff]
  rw [this]

/-- Points, over all that came behind. -/
theorem pointsW (v : S) (W : World) (hB : Below w.heap.size w W) :
    Calls Try.prog 17 #[.agg (repV e As sites.length cs Ar rows.length cr x3 x4 x5), .string (U v)] W fun e w' => ∃ A c zs, e = .returned (.slice A (zs.map (siteAt sites)).length c) ∧ (zs.map (siteAt sites)).length ≤ c ∧ StrRow w' A (zs.map (siteAt sites)) ∧
      IsNums sites.length v rows zs ∧ Below w.heap.size w w' := by
  obtain ⟨h1, h2, h3⟩ := sizesR_length hsz
  refine (points17 e As cs Ar cr x3 x4 x5 rows sites v W (hS.below hB (Nat.le_refl _)) (hR.below hB (Nat.le_refl _)) (by omega) (fun j => by have := h3 sites.length v j; omega) (fun r hr => by have := h2 r hr; omega)).mono ?_
  rintro ee w' ⟨v', zs, rfl, hz, ho, hB'⟩
  obtain ⟨A, c, rfl, hle⟩ := q_slice (q_of_own ho)
  exact ⟨A, c, zs, rfl, hle, row_q (q_of_own ho), hz, hB.trans (hB'.mono hB.size)⟩

/-- Who, over all that came behind. -/
theorem whoW (site : S) (W : World) (hB : Below w.heap.size w W) :
    Calls Try.prog 18 #[.agg (repV e As sites.length cs Ar rows.length cr x3 x4 x5), .string (U site)] W fun e w' => ∃ A c, e = .returned (.slice A (whoOf sites rows site rows).length c) ∧ (whoOf sites rows site rows).length ≤ c ∧ StrRow w' A (whoOf sites rows site rows) ∧
      Below w.heap.size w w' := by
  obtain ⟨h1, h2, h3⟩ := sizesR_length hsz
  refine (who18 e As cs Ar cr x3 x4 x5 rows sites site W (hS.below hB (Nat.le_refl _)) (hR.below hB (Nat.le_refl _)) (by omega) (fun v j => by have := h3 sites.length v j; omega) (fun r hr => by have := h2 r hr; omega)).mono ?_
  rintro ee w' ⟨v', rfl, ho, hB'⟩
  obtain ⟨A, c, rfl, hle⟩ := q_slice (q_of_own ho)
  exact ⟨A, c, rfl, hle, row_q (q_of_own ho), hB.trans (hB'.mono hB.size)⟩
end

theorem nodup_le {α : Type} [BEq α] [LawfulBEq α] : ∀ (a b : List α), a.Nodup → (∀ x ∈ a, x ∈ b) → a.length ≤ b.length := by
  intro a
  induction a with
  | nil => intro b _ _; simp
  | cons x a ih =>
    intro b hn hb
    rw [List.nodup_cons] at hn
    have hx := hb x (by simp)
    have := ih (b.erase x) hn.2 (fun y hy => (List.mem_erase_of_ne (fun e => hn.1 (by rw [← e]; exact hy))).2 (hb y (List.mem_cons_of_mem _ hy)))
    rw [List.length_erase_of_mem hx] at this
    have hpos : 0 < b.length := List.length_pos_of_mem hx
    rw [List.length_cons]
    omega

theorem IsNums.len {sites : List S} {rows : List (S × List Int)} {v : S} {zs : List Int} (h : IsNums sites.length v rows zs) (hsz : sizesR rows ≤ 2000) : zs.length ≤ 1000000 := by
  have hp := (sizesR_length hsz).2.2 sites.length v rows.length
  rw [List.take_length] at hp
  have hn : zs.Nodup := by
    rw [List.nodup_iff_pairwise_ne]
    exact h.1.imp fun {a b} hab => by omega
  have := nodup_le zs (picks sites.length v rows) hn fun z hz => (h.2 z).1 hz
  omega

theorem IsNums.nil {sites : List S} {rows : List (S × List Int)} {v : S} {zs : List Int} (h : IsNums sites.length v rows zs) : zs = [] ↔ picks sites.length v rows = [] := by
  constructor
  · intro e
    rw [List.eq_nil_iff_forall_not_mem]
    intro z hz
    have := (h.2 z).2 hz
    rw [e] at this
    cases this
  · intro e
    rw [List.eq_nil_iff_forall_not_mem]
    intro z hz
    have := (h.2 z).1 hz
    rw [e] at this
    cases this

section
variable (e : S) (As : Option Addr) (cs : Nat) (Ar : Option Addr) (cr : Nat) (x3 x4 x5 : Value) (rows : List (S × List Int)) (sites : List S) (w : World)
variable (hS : StrRow w As sites) (hR : SetRow w Ar rows) (hsz : sizesR rows ≤ 2000)
include hS hR hsz

theorem pointsNone (v : S) (hv : aliasB sites.length rows v v = false) (W : World) (hB : Below w.heap.size w W) :
    Calls Try.prog 17 #[.agg (repV e As sites.length cs Ar rows.length cr x3 x4 x5), .string (U v)] W fun e w' => ∃ A c, e = .returned (.slice A 0 c) ∧ Below w.heap.size w w' := by
  refine (pointsW e As cs Ar cr x3 x4 x5 rows sites w hS hR hsz v W hB).mono ?_
  rintro ee w' ⟨A, c, zs, rfl, _, _, hz, hB'⟩
  have h0 : picks sites.length v rows = [] := by
    apply Classical.byContradiction
    intro h
    rw [aliasB_self.2 h] at hv
    cases hv
  have h1 := hz.nil.2 h0
  subst h1
  exact ⟨A, c, rfl, hB'⟩

theorem pointsSome (v : S) (hv : aliasB sites.length rows v v = true) (W : World) (hB : Below w.heap.size w W) :
    Calls Try.prog 17 #[.agg (repV e As sites.length cs Ar rows.length cr x3 x4 x5), .string (U v)] W fun e w' => ∃ A m c, e = .returned (.slice A (m + 1) c) ∧ m ≤ 1000000 ∧ Below w.heap.size w w' := by
  refine (pointsW e As cs Ar cr x3 x4 x5 rows sites w hS hR hsz v W hB).mono ?_
  rintro ee w' ⟨A, c, zs, rfl, _, _, hz, hB'⟩
  have hl := hz.len hsz
  have h0 := aliasB_self.1 hv
  match zs, hz, hl with
  | [], hz, _ => exact absurd (hz.nil.1 rfl) h0
  | z :: zs, _, hl => exact ⟨A, zs.length, c, by simp, by simp at hl; omega, hB'⟩

/-- Points, its list under a name of its own. -/
theorem pointsX (v : S) (W : World) (hB : Below w.heap.size w W) :
    Calls Try.prog 17 #[.agg (repV e As sites.length cs Ar rows.length cr x3 x4 x5), .string (U v)] W fun e w' => ∃ A c xs, e = .returned (.slice A xs.length c) ∧ xs.length ≤ c ∧ xs.length ≤ 1000000 ∧ StrRow w' A xs ∧
      (∃ zs, xs = zs.map (siteAt sites) ∧ IsNums sites.length v rows zs) ∧ Below w.heap.size w w' := by
  refine (pointsW e As cs Ar cr x3 x4 x5 rows sites w hS hR hsz v W hB).mono ?_
  rintro ee w' ⟨A, c, zs, rfl, hle, hs, hz, hB'⟩
  exact ⟨A, c, _, rfl, hle, by have := hz.len hsz; simpa using this, hs, ⟨zs, rfl, hz⟩, hB'⟩
end

theorem points_contains {sites : List S} {v : S} {rows : List (S × List Int)} {xs : List S} (h : ∃ zs, xs = zs.map (siteAt sites) ∧ IsNums sites.length v rows zs) (site : S) : xs.contains site = holdsSite sites rows site v := by
  obtain ⟨zs, rfl, hz⟩ := h
  exact contains_points hz site
end Go.Proofs.Ytljfknneijmfoaa
