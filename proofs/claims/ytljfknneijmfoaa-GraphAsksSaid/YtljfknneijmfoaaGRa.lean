import Derived.Test.YtljfknneijmfoaaGOd
import Derived.Test.YtljfknneijmfoaaGFb
namespace Go.Proofs.Ytljfknneijmfoaa
open Go.RowKit Go.Maps Go.WideMaps
open Go.Proofs.YtljfknneijmfoaaW.PrintWords
open PQueryCalls (lanternref1_Sorted.l0 lanternref1_Sorted.l1 lanternref1_Sorted.l2 lanternref1_Sorted.j2 lanternref1_Sorted.j3)

theorem rds_of {l : List S} {i : Nat} {z : S} (h : l[i]? = some z) : rdOf ByteArray.empty (l.map U) (i : Int) = U z := by
  simp [rdOf, List.getD_eq_getElem?_getD, h]

theorem less_U (x y : S) : Op.bytesLess (U x).toList (U y).toList = decide (x < y) := by rw [toList_U, toList_U, Go.Proofs.bytesLess_eq]

theorem srt_l2 (xs acc : List S) (i at' : Nat) (x : S) (hi : xs[i]? = some x) (hat : at' ≤ acc.length) (hn : acc.length ≤ 1000000) (hin : i ≤ 1000000) :
    ∀ (m p : Nat) (y : List S), p = at' + m → p ≤ acc.length → y.length = acc.length + 1 → (∀ j, j < p → y[j]? = acc[j]?) → (∀ j, p ≤ j → y[j + 1]? = acc[j]?) →
    ∀ R, Ev (fun k => lanternref1_Sorted.l0 k (xs.map U) ((acc.take at' ++ x :: acc.drop at').map U) ((i + 1 : Nat) : Int)) R → Ev (fun k => lanternref1_Sorted.l2 k (xs.map U) (y.map U) (i : Int) (at' : Int) (p : Int)) R := by
  intro m
  induction m with
  | zero =>
    intro p y hp hpn hy h1 h2 R hR
    have hil : i < xs.length := (List.getElem?_eq_some_iff.1 hi).1
    have hpa : p = at' := by omega
    subst hpa
    have he : y.set p x = acc.take p ++ x :: acc.drop p := by
      apply List.ext_getElem?
      intro j
      rw [List.getElem?_set]
      by_cases hj : p = j
      · subst hj
        rw [if_pos rfl, if_pos (by omega), List.getElem?_append_right (by rw [List.length_take]; exact Nat.min_le_left _ _)]
        simp [Nat.min_eq_left hpn]
      · rw [if_neg hj]
        by_cases hlt : j < p
        · rw [h1 j hlt, List.getElem?_append_left (by simp; omega), List.getElem?_take_of_lt hlt]
        · obtain ⟨q, rfl⟩ : ∃ q, j = q + 1 := ⟨j - 1, by omega⟩
          rw [h2 q (by omega), List.getElem?_append_right (by simp; omega)]
          rw [List.length_take, Nat.min_eq_left hpn, show q + 1 - p = (q - p) + 1 by omega, List.getElem?_cons_succ, List.getElem?_drop]
          congr 1
          omega
    refine Ev.step (fun k => ?_) hR
    show lanternref1_Sorted.l2 (k + 1) _ _ _ _ _ = _
    rw [lanternref1_Sorted.l2]
    rw [if_neg (by omega), if_pos (by omega), if_pos (by simp; omega), if_pos (by omega), if_pos (by simp; omega), rds_of hi, Int.toNat_natCast, ← List.map_set, he]
    rw [show wrap64 ((i : Int) + 1) = ((i + 1 : Nat) : Int) by unfold wrap64; omega]
  | succ m ih =>
    intro p y hp hpn hy h1 h2 R hR
    obtain ⟨q, rfl⟩ : ∃ q, p = q + 1 := ⟨p - 1, by omega⟩
    obtain ⟨z, hz⟩ : ∃ z, acc[q]? = some z := ⟨_, List.getElem?_eq_getElem (by omega)⟩
    have hyq : y[q]? = some z := by rw [h1 q (by omega), hz]
    refine Ev.step (fun k => ?_) (ih q (y.set (q + 1) z) (by omega) (by omega) (by simpa using hy) ?_ ?_ R hR)
    · show lanternref1_Sorted.l2 (k + 1) _ _ _ _ _ = _
      rw [lanternref1_Sorted.l2]
      have hw : wrap64 (((q + 1 : Nat) : Int) - 1) = (q : Int) := by unfold wrap64; omega
      rw [hw]
      clear hw
      rw [if_pos (by omega), if_pos (by omega), if_pos (by simp; omega), if_pos (by omega), if_pos (by simp; omega), rds_of hyq, Int.toNat_natCast, List.map_set]
    · intro j hj
      rw [List.getElem?_set_ne (by omega), h1 j (by omega)]
    · intro j hj
      by_cases hjq : j = q
      · subst hjq
        rw [List.getElem?_set_self (by omega), hz]
      · rw [List.getElem?_set_ne (by omega), h2 j (by omega)]

/-- One more string among those that ascend. -/
def InsS (acc : List S) (x : S) (acc' : List S) : Prop := SS acc' ∧ (∀ z, z ∈ acc' ↔ z ∈ acc ∨ z = x) ∧ acc'.length ≤ acc.length + 1

theorem ss_ins {acc : List S} {x : S} {n : Nat} (h : SS acc) (h1 : ∀ j z, j < n → acc[j]? = some z → z < x) (h2 : ∀ j z, n ≤ j → acc[j]? = some z → x < z) : InsS acc x (acc.take n ++ x :: acc.drop n) := by
  have hta : acc.take n ++ acc.drop n = acc := List.take_append_drop n acc
  refine ⟨?_, fun z => ?_, by simp; omega⟩
  · unfold SS at *
    rw [← hta] at h
    rw [List.pairwise_append] at h ⊢
    obtain ⟨p1, p2, p3⟩ := h
    refine ⟨p1, ?_, ?_⟩
    · rw [List.pairwise_cons]
      refine ⟨fun z hz => ?_, p2⟩
      obtain ⟨j, hj⟩ := List.mem_iff_getElem?.1 hz
      rw [List.getElem?_drop] at hj
      exact h2 _ z (by omega) hj
    · intro a ha b hb
      obtain ⟨j, hj⟩ := List.mem_iff_getElem?.1 ha
      have hjn : j < n := by
        have := (List.getElem?_eq_some_iff.1 hj).1
        simp at this
        omega
      rw [List.getElem?_take_of_lt hjn] at hj
      rcases List.mem_cons.1 hb with rfl | hb
      · exact h1 j a hjn hj
      · exact p3 a (List.mem_iff_getElem?.2 ⟨j, by rw [List.getElem?_take_of_lt hjn]; exact hj⟩) b hb
  · have : z ∈ acc ↔ z ∈ acc.take n ∨ z ∈ acc.drop n := by
      rw [← List.mem_append, hta]
    rw [this, List.mem_append, List.mem_cons]
    constructor
    · rintro (h | h | h)
      · exact .inl (.inl h)
      · exact .inr h
      · exact .inl (.inr h)
    · rintro ((h | h) | h)
      · exact .inl h
      · exact .inr (.inr h)
      · exact .inr (.inl h)

theorem ss_get {acc : List S} (h : SS acc) {i j : Nat} {a b : S} (ha : acc[i]? = some a) (hb : acc[j]? = some b) (hij : i < j) : a < b := by
  obtain ⟨hi, rfl⟩ := List.getElem?_eq_some_iff.1 ha
  obtain ⟨hj, rfl⟩ := List.getElem?_eq_some_iff.1 hb
  exact (List.pairwise_iff_getElem.1 h) i j hi hj hij

theorem srt_l1 (xs acc : List S) (i : Nat) (x : S) (hi : xs[i]? = some x) (hA : SS acc) (hn : acc.length ≤ 1000000) (hin : i ≤ 1000000) :
    ∀ (n : Nat), n ≤ acc.length → (∀ j z, n ≤ j → acc[j]? = some z → x < z) →
    ∃ acc', InsS acc x acc' ∧ ∀ R, Ev (fun k => lanternref1_Sorted.l0 k (xs.map U) (acc'.map U) ((i + 1 : Nat) : Int)) R → Ev (fun k => lanternref1_Sorted.l1 k (xs.map U) (acc.map U) (i : Int) (n : Int)) R := by
  have hil : i < xs.length := (List.getElem?_eq_some_iff.1 hi).1
  have hap : (acc ++ [([] : S)]).map U = acc.map U ++ [(⟨#[]⟩ : ByteArray)] := by rw [List.map_append]; rfl
  intro n
  induction n with
  | zero =>
    intro hnl h2
    refine ⟨acc.take 0 ++ x :: acc.drop 0, ss_ins hA (fun j z hj => by omega) h2, fun R hR => ?_⟩
    have h3 := srt_l2 xs acc i 0 x hi (by omega) hn hin acc.length acc.length (acc ++ [[]]) (by omega) (Nat.le_refl _) (by simp) (fun j hj => List.getElem?_append_left hj) (fun j hj => by rw [List.getElem?_eq_none (by simp; omega), List.getElem?_eq_none hj]) R hR
    refine Ev.step (f := fun k => lanternref1_Sorted.j2 k (xs.map U) (acc.map U) (i : Int) 0) (fun k => ?_) (Ev.step (f := fun k => lanternref1_Sorted.j3 k (xs.map U) (acc.map U) (i : Int) 0 false) (fun k => ?_) (Ev.step (fun k => ?_) h3))
    · show lanternref1_Sorted.l1 (k + 1) _ _ _ _ = _
      rw [lanternref1_Sorted.l1]
      rw [if_neg (by simp)]
      rfl
    · show lanternref1_Sorted.j2 (k + 1) _ _ _ _ = _
      rw [lanternref1_Sorted.j2]
      rw [if_neg (by simp)]
    · show lanternref1_Sorted.j3 (k + 1) _ _ _ _ _ = _
      rw [lanternref1_Sorted.j3]
      rw [if_neg (by simp), if_pos (by simp; omega), Option.bind_some, hap]
      congr 1
      rw [List.length_append, List.length_singleton, List.length_map]
      unfold wrap64
      omega
  | succ n ih =>
    intro hnl h2
    obtain ⟨z, hz⟩ : ∃ z, acc[n]? = some z := ⟨_, List.getElem?_eq_getElem (by omega)⟩
    by_cases hgt : x < z
    · obtain ⟨acc', hI, hE⟩ := ih (by omega) (fun j y hj hy => by
        by_cases e : j = n
        · subst e; rw [hz] at hy; cases hy; exact hgt
        · exact h2 j y (by omega) hy)
      refine ⟨acc', hI, fun R hR => Ev.step (fun k => ?_) (hE R hR)⟩
      show lanternref1_Sorted.l1 (k + 1) _ _ _ _ = _
      rw [lanternref1_Sorted.l1]
      rw [show wrap64 (((n + 1 : Nat) : Int) - 1) = (n : Int) by unfold wrap64; omega]
      rw [if_pos (by omega), if_pos (by omega), if_pos (by simp; omega), if_pos (by omega), if_pos (by simp; omega), rds_of hz, rds_of hi, less_U, if_pos (by simpa using hgt)]
    · by_cases heq : z = x
      · subst heq
        refine ⟨acc, ⟨hA, fun y => ⟨.inl, fun h => h.elim id fun e => ?_⟩, by omega⟩, fun R hR => ?_⟩
        · rw [e]; exact List.mem_of_getElem? hz
        · refine Ev.step (f := fun k => lanternref1_Sorted.j2 k (xs.map U) (acc.map U) (i : Int) ((n + 1 : Nat) : Int)) (fun k => ?_) (Ev.step (f := fun k => lanternref1_Sorted.j3 k (xs.map U) (acc.map U) (i : Int) ((n + 1 : Nat) : Int) true) (fun k => ?_) (Ev.step (fun k => ?_) hR))
          · show lanternref1_Sorted.l1 (k + 1) _ _ _ _ = _
            rw [lanternref1_Sorted.l1]
            rw [show wrap64 (((n + 1 : Nat) : Int) - 1) = (n : Int) by unfold wrap64; omega]
            rw [if_pos (by omega), if_pos (by omega), if_pos (by simp; omega), if_pos (by omega), if_pos (by simp; omega), rds_of hz, rds_of hi, less_U, if_neg (by simp)]
          · show lanternref1_Sorted.j2 (k + 1) _ _ _ _ = _
            rw [lanternref1_Sorted.j2]
            rw [show wrap64 (((n + 1 : Nat) : Int) - 1) = (n : Int) by unfold wrap64; omega]
            rw [if_pos (by omega), if_pos (by omega), if_pos (by simp; omega), if_pos (by omega), if_pos (by simp; omega), rds_of hz, rds_of hi]
            simp
          · show lanternref1_Sorted.j3 (k + 1) _ _ _ _ _ = _
            rw [lanternref1_Sorted.j3]
            rw [if_pos rfl]
            rw [show wrap64 ((i : Int) + 1) = ((i + 1 : Nat) : Int) by unfold wrap64; omega]
      · have hlt : z < x := Std.lt_of_le_of_ne (List.not_lt.1 hgt) heq
        refine ⟨acc.take (n + 1) ++ x :: acc.drop (n + 1), ss_ins hA (fun j y hj hy => ?_) h2, fun R hR => ?_⟩
        · by_cases e : j = n
          · subst e; rw [hz] at hy; cases hy; exact hlt
          · exact Std.lt_trans (ss_get hA hy hz (by omega)) hlt
        · have h3 := srt_l2 xs acc i (n + 1) x hi hnl hn hin (acc.length - (n + 1)) acc.length (acc ++ [[]]) (by omega) (Nat.le_refl _) (by simp) (fun j hj => List.getElem?_append_left hj) (fun j hj => by rw [List.getElem?_eq_none (by simp; omega), List.getElem?_eq_none hj]) R hR
          refine Ev.step (f := fun k => lanternref1_Sorted.j2 k (xs.map U) (acc.map U) (i : Int) ((n + 1 : Nat) : Int)) (fun k => ?_) (Ev.step (f := fun k => lanternref1_Sorted.j3 k (xs.map U) (acc.map U) (i : Int) ((n + 1 : Nat) : Int) false) (fun k => ?_) (Ev.step (fun k => ?_) h3))
          · show lanternref1_Sorted.l1 (k + 1) _ _ _ _ = _
            rw [lanternref1_Sorted.l1]
            rw [show wrap64 (((n + 1 : Nat) : Int) - 1) = (n : Int) by unfold wrap64; omega]
            rw [if_pos (by omega), if_pos (by omega), if_pos (by simp; omega), if_pos (by omega), if_pos (by simp; omega), rds_of hz, rds_of hi, less_U, if_neg (by simpa using hgt)]
          · show lanternref1_Sorted.j2 (k + 1) _ _ _ _ = _
            rw [lanternref1_Sorted.j2]
            rw [show wrap64 (((n + 1 : Nat) : Int) - 1) = (n : Int) by unfold wrap64; omega]
            rw [if_pos (by omega), if_pos (by omega), if_pos (by simp; omega), if_pos (by omega), if_pos (by simp; omega), rds_of hz, rds_of hi, toList_U, toList_U]
            rw [show (z == x) = false by simpa using heq]
          · show lanternref1_Sorted.j3 (k + 1) _ _ _ _ _ = _
            rw [lanternref1_Sorted.j3]
            rw [if_neg (by simp), if_pos (by simp; omega), Option.bind_some, hap]
            congr 1
            rw [List.length_append, List.length_singleton, List.length_map]
            unfold wrap64
            omega

theorem srt_l0 (xs : List S) (hx : xs.length ≤ 1000000) : ∀ (m i : Nat) (acc : List S), xs.length - i = m → i ≤ xs.length → SS acc → acc.length ≤ i →
    ∃ r, SS r ∧ (∀ z, z ∈ r ↔ z ∈ acc ∨ z ∈ xs.drop i) ∧ r.length ≤ xs.length ∧ Ev (fun k => lanternref1_Sorted.l0 k (xs.map U) (acc.map U) (i : Int)) (r.map U) := by
  intro m
  induction m with
  | zero =>
    intro i acc hm hi hA hl
    have : i = xs.length := by omega
    subst this
    refine ⟨acc, hA, fun z => by simp, hl, Ev.step (f := fun _ => some (acc.map U)) (fun k => ?_) (Ev.now _)⟩
    show lanternref1_Sorted.l0 (k + 1) _ _ _ = _
    rw [lanternref1_Sorted.l0]
    rw [if_neg (by simp)]
  | succ m ih =>
    intro i acc hm hi hA hl
    have hlt : i < xs.length := by omega
    obtain ⟨acc', hI, hE⟩ := srt_l1 xs acc i xs[i] (List.getElem?_eq_getElem hlt) hA (by omega) (by omega) acc.length (Nat.le_refl _) (fun j z hj hz => by rw [List.getElem?_eq_none hj] at hz; cases hz)
    obtain ⟨r, r1, r2, r3, r4⟩ := ih (i + 1) acc' (by omega) (by omega) hI.1 (by have := hI.2.2; omega)
    refine ⟨r, r1, fun z => ?_, r3, Ev.step (fun k => ?_) (hE (r.map U) r4)⟩
    · rw [r2, hI.2.1, List.drop_eq_getElem_cons hlt, List.mem_cons, or_assoc]
    · show lanternref1_Sorted.l0 (k + 1) _ _ _ = _
      rw [lanternref1_Sorted.l0]
      rw [if_pos (by simp; omega), List.length_map]

/-- Sorted: the members, ascending, each once. -/
theorem srt_f (xs : List S) (hx : xs.length ≤ 1000000) : ∃ r, IsSrt xs r ∧ r.length ≤ xs.length ∧ Ev (fun k => PQueryCalls.lanternref1_Sorted.f k (xs.map U)) (r.map U) := by
  obtain ⟨r, r1, r2, r3, r4⟩ := srt_l0 xs hx xs.length 0 [] (by omega) (by omega) List.Pairwise.nil (by simp)
  exact ⟨r, ⟨r1, fun z => by rw [r2]; simp⟩, r3, Ev.congr (fun _ => rfl) r4⟩

/-- Where edges of a node lead. -/
def outsOf (es : List (S × Int × S)) (s : S) : List S := (es.filter fun e => decide (e.1 = s)).map (·.2.2)

/-- An edge, as the texts printed for QueryCalls have it. -/
def toC50 (e : S × Int × S) : PQueryCalls.S50 := ⟨U e.1, e.2.1, U e.2.2⟩

theorem rdC (l : List (S × Int × S)) {i : Nat} {e : S × Int × S} (h : l[i]? = some e) : PQueryCalls.rd_T50 (l.map toC50) (i : Int) = toC50 e := by
  simp [PQueryCalls.rd_T50, List.getD_eq_getElem?_getD, h]

theorem next_l0 (es : List (S × Int × S)) (s : S) (hn : es.length ≤ 1000000) : ∀ (m i : Nat), es.length - i = m → i ≤ es.length →
    ∃ r, IsSrt (outsOf es s) r ∧ r.length ≤ es.length ∧ Ev (fun k => PQueryCalls.lanternref22_next.l0 k (es.map toC50) (U s) ((outsOf (es.take i) s).map U) (i : Int)) (r.map U) := by
  intro m
  induction m with
  | zero =>
    intro i hm hi
    have : i = es.length := by omega
    subst this
    have hl : (outsOf es s).length ≤ es.length := by unfold outsOf; rw [List.length_map]; exact List.length_filter_le _ _
    obtain ⟨r, r1, r2, r3⟩ := srt_f (outsOf es s) (by omega)
    refine ⟨r, r1, by omega, Ev.step (f := fun k => (PQueryCalls.lanternref1_Sorted.f k ((outsOf es s).map U)).bind fun t => some t) (fun k => ?_) (Ev.bind (f := fun _ t => some t) r3 (Ev.now _))⟩
    show PQueryCalls.lanternref22_next.l0 (k + 1) _ _ _ _ = _
    rw [PQueryCalls.lanternref22_next.l0]
    rw [if_neg (by simp), List.take_length]
  | succ m ih =>
    intro i hm hi
    have hlt : i < es.length := by omega
    obtain ⟨r, r1, r2, r3⟩ := ih (i + 1) (by omega) (by omega)
    refine ⟨r, r1, r2, Ev.step (fun k => ?_) r3⟩
    have hs : outsOf (es.take (i + 1)) s = outsOf (es.take i) s ++ (if es[i].1 = s then [es[i].2.2] else []) := by
      unfold outsOf
      rw [List.take_add_one, List.getElem?_eq_getElem hlt, Option.toList_some, List.filter_append, List.map_append]
      congr 1
      rw [List.filter_cons, List.filter_nil]
      by_cases h : es[i].1 = s
      · simp [h]
      · simp [h]
    have hl : (outsOf (es.take i) s).length ≤ es.length := by unfold outsOf; rw [List.length_map]; exact Nat.le_trans (List.length_filter_le _ _) (by simp; omega)
    show PQueryCalls.lanternref22_next.l0 (k + 1) _ _ _ _ = _
    rw [PQueryCalls.lanternref22_next.l0]
    rw [if_pos (by simp; omega), if_pos (by omega), rdC es (List.getElem?_eq_getElem hlt)]
    rw [show (toC50 es[i]).f0 = U es[i].1 from rfl, show (toC50 es[i]).f2 = U es[i].2.2 from rfl, toList_U, toList_U, hs]
    by_cases h : es[i].1 = s
    · rw [if_pos h, if_pos h, if_pos (by simp; omega), show wrap64 ((i : Int) + 1) = ((i + 1 : Nat) : Int) by unfold wrap64; omega, List.map_append]
      rfl
    · rw [if_neg h, if_neg h, List.append_nil, show wrap64 ((i : Int) + 1) = ((i + 1 : Nat) : Int) by unfold wrap64; omega]

theorem next_f (es : List (S × Int × S)) (s : S) (hn : es.length ≤ 1000000) : ∃ r, IsSrt (outsOf es s) r ∧ r.length ≤ es.length ∧ Ev (fun k => PQueryCalls.lanternref22_next.f k (es.map toC50) (U s)) (r.map U) := by
  obtain ⟨r, r1, r2, r3⟩ := next_l0 es s hn es.length 0 (by omega) (by omega)
  exact ⟨r, r1, r2, Ev.congr (fun _ => rfl) r3⟩

theorem mem_outsOf {es : List (S × Int × S)} {s t : S} : t ∈ outsOf es s ↔ (s, t) ∈ ends es := by
  unfold outsOf ends
  rw [List.mem_map, List.mem_map]
  constructor
  · rintro ⟨e, he, rfl⟩
    rw [List.mem_filter, decide_eq_true_eq] at he
    exact ⟨e, he.1, by rw [he.2]⟩
  · rintro ⟨e, he, h⟩
    injection h with h1 h2
    exact ⟨e, List.mem_filter.2 ⟨he, by simpa using h1⟩, h2⟩
end Go.Proofs.Ytljfknneijmfoaa
namespace Go.Proofs.Ytljfknneijmfoaa
open Go.RowKit Go.Maps Go.WideMaps
open Go.Proofs.YtljfknneijmfoaaW.PrintWords

theorem inC_l0 (l : List S) (x : S) (hl : l.length ≤ 9223372036854775807) : ∀ (m i : Nat), l.length - i = m → i ≤ l.length →
    ∃ r, Ev (fun k => PQueryCalls.lanternref1_in.l0 k (l.map U) (U x) (i : Int)) r ∧ (0 ≤ r ↔ x ∈ l.drop i) := by
  intro m
  induction m with
  | zero =>
    intro i hm hi
    have : i = l.length := by omega
    subst this
    refine ⟨-1, Ev.step (f := fun _ => some (-1)) (fun k => ?_) (Ev.now _), by simp⟩
    show PQueryCalls.lanternref1_in.l0 (k + 1) _ _ _ = _
    rw [PQueryCalls.lanternref1_in.l0]
    rw [if_neg (by simp)]
  | succ m ih =>
    intro i hm hi
    have hlt : i < l.length := by omega
    rw [List.drop_eq_getElem_cons hlt]
    by_cases c : l[i] = x
    · refine ⟨(i : Int), Ev.step (f := fun _ => some (i : Int)) (fun k => ?_) (Ev.now _), by simp [c]⟩
      show PQueryCalls.lanternref1_in.l0 (k + 1) _ _ _ = _
      rw [PQueryCalls.lanternref1_in.l0]
      rw [if_pos (by simp; omega), if_pos (by omega), rds_of (List.getElem?_eq_getElem hlt), toList_U, toList_U, if_pos c]
    · obtain ⟨r, hr, h⟩ := ih (i + 1) (by omega) (by omega)
      refine ⟨r, Ev.step (fun k => ?_) hr, h.trans ?_⟩
      · show PQueryCalls.lanternref1_in.l0 (k + 1) _ _ _ = _
        rw [PQueryCalls.lanternref1_in.l0]
        rw [if_pos (by simp; omega), if_pos (by omega), rds_of (List.getElem?_eq_getElem hlt), toList_U, toList_U, if_neg c, show wrap64 ((i : Int) + 1) = ((i + 1 : Nat) : Int) by unfold wrap64; omega]
      · rw [List.mem_cons]
        exact ⟨fun h => .inr h, fun h => h.resolve_left (fun e => c e.symm)⟩

theorem hasC (l : List S) (x : S) (hl : l.length ≤ 9223372036854775807) : Ev (fun k => PQueryCalls.lanternref1_Has.f k (l.map U) (U x)) (decide (x ∈ l)) := by
  obtain ⟨r, hr, hx⟩ := inC_l0 l x hl l.length 0 (by omega) (by omega)
  rw [List.drop_zero] at hx
  have hd : decide (r ≥ 0) = decide (x ∈ l) := by rw [Bool.eq_iff_iff, decide_eq_true_eq, decide_eq_true_eq, ← hx]
  rw [← hd]
  exact Ev.congr (fun _ => rfl) (Ev.bind (f := fun _ t => some (decide (t ≥ 0))) hr (Ev.now _))

/-- Both ends of each edge. -/
def bothEnds (es : List (S × Int × S)) : List S := es.flatMap fun e => [e.1, e.2.2]

theorem bothEnds_len (es : List (S × Int × S)) : (bothEnds es).length = 2 * es.length := by
  unfold bothEnds
  induction es with
  | nil => rfl
  | cons a q ih => simp only [List.flatMap_cons, List.length_append, List.length_cons, List.length_nil, ih]; omega

theorem mem_bothEnds {es : List (S × Int × S)} {x : S} : x ∈ bothEnds es ↔ ∃ y, (x, y) ∈ ends es ∨ (y, x) ∈ ends es := by
  unfold bothEnds ends
  rw [List.mem_flatMap]
  constructor
  · rintro ⟨e, he, h⟩
    simp only [List.mem_cons, List.not_mem_nil, or_false] at h
    rcases h with rfl | rfl
    · exact ⟨e.2.2, .inl (List.mem_map.2 ⟨e, he, rfl⟩)⟩
    · exact ⟨e.1, .inr (List.mem_map.2 ⟨e, he, rfl⟩)⟩
  · rintro ⟨y, h | h⟩
    · obtain ⟨e, he, h⟩ := List.mem_map.1 h
      injection h with h1 h2
      exact ⟨e, he, by simp [h1]⟩
    · obtain ⟨e, he, h⟩ := List.mem_map.1 h
      injection h with h1 h2
      exact ⟨e, he, by simp [h2]⟩

theorem nodes_l0 (es : List (S × Int × S)) (hn : es.length ≤ 100000) : ∀ (m i : Nat), es.length - i = m → i ≤ es.length →
    ∃ r, IsSrt (bothEnds es) r ∧ r.length ≤ 2 * es.length ∧ Ev (fun k => PQueryCalls.lanternref22_Nodes.l0 k (es.map toC50) ((bothEnds (es.take i)).map U) (i : Int)) (r.map U) := by
  intro m
  induction m with
  | zero =>
    intro i hm hi
    have : i = es.length := by omega
    subst this
    have hl := bothEnds_len es
    obtain ⟨r, r1, r2, r3⟩ := srt_f (bothEnds es) (by omega)
    refine ⟨r, r1, by omega, Ev.step (f := fun k => (PQueryCalls.lanternref1_Sorted.f k ((bothEnds es).map U)).bind fun t => some t) (fun k => ?_) (Ev.bind (f := fun _ t => some t) r3 (Ev.now _))⟩
    show PQueryCalls.lanternref22_Nodes.l0 (k + 1) _ _ _ = _
    rw [PQueryCalls.lanternref22_Nodes.l0]
    rw [if_neg (by simp), List.take_length]
  | succ m ih =>
    intro i hm hi
    have hlt : i < es.length := by omega
    obtain ⟨r, r1, r2, r3⟩ := ih (i + 1) (by omega) (by omega)
    refine ⟨r, r1, r2, Ev.step (fun k => ?_) r3⟩
    have hs : bothEnds (es.take (i + 1)) = bothEnds (es.take i) ++ [es[i].1, es[i].2.2] := by
      unfold bothEnds
      rw [List.take_add_one, List.getElem?_eq_getElem hlt, Option.toList_some, List.flatMap_append]
      simp
    have hl : (bothEnds (es.take i)).length ≤ 2 * es.length := by rw [bothEnds_len, List.length_take]; omega
    show PQueryCalls.lanternref22_Nodes.l0 (k + 1) _ _ _ = _
    rw [PQueryCalls.lanternref22_Nodes.l0]
    rw [if_pos (by simp; omega), if_pos (by omega), rdC es (List.getElem?_eq_getElem hlt)]
    rw [show (toC50 es[i]).f0 = U es[i].1 from rfl, show (toC50 es[i]).f2 = U es[i].2.2 from rfl, hs, Option.bind_some]
    rw [if_pos (by simp; omega), show wrap64 ((i : Int) + 1) = ((i + 1 : Nat) : Int) by unfold wrap64; omega, List.map_append]
    rfl

theorem nodes_f (es : List (S × Int × S)) (hn : es.length ≤ 100000) : ∃ r, IsNodes (ends es) r ∧ r.length ≤ 2 * es.length ∧ Ev (fun k => PQueryCalls.lanternref22_Nodes.f k (es.map toC50)) (r.map U) := by
  obtain ⟨r, r1, r2, r3⟩ := nodes_l0 es hn es.length 0 (by omega) (by omega)
  exact ⟨r, ⟨r1.1, fun x => (r1.2 x).trans mem_bothEnds⟩, r2, Ev.congr (fun _ => rfl) r3⟩

/-- Where edges lead that start in some. -/
def goesTo (out : List S) (es : List (S × Int × S)) : List S := (es.filter fun e => decide (e.1 ∈ out)).map (·.2.2)

theorem goesTo_len (out : List S) (es : List (S × Int × S)) : (goesTo out es).length ≤ es.length := by unfold goesTo; rw [List.length_map]; exact List.length_filter_le _ _

theorem goesTo_snoc (out : List S) (es : List (S × Int × S)) (i : Nat) (hi : i < es.length) : goesTo out (es.take (i + 1)) = goesTo out (es.take i) ++ (if es[i].1 ∈ out then [es[i].2.2] else []) := by
  unfold goesTo
  rw [List.take_add_one, List.getElem?_eq_getElem hi, Option.toList_some, List.filter_append, List.map_append]
  congr 1
  rw [List.filter_cons, List.filter_nil]
  by_cases h : es[i].1 ∈ out
  · simp [h]
  · simp [h]

theorem mem_goesTo {out : List S} {es : List (S × Int × S)} {x : S} : x ∈ goesTo out es ↔ ∃ y, y ∈ out ∧ (y, x) ∈ ends es := by
  unfold goesTo ends
  rw [List.mem_map]
  constructor
  · rintro ⟨e, he, rfl⟩
    rw [List.mem_filter, decide_eq_true_eq] at he
    exact ⟨e.1, he.2, List.mem_map.2 ⟨e, he.1, rfl⟩⟩
  · rintro ⟨y, hy, h⟩
    obtain ⟨e, he, h⟩ := List.mem_map.1 h
    injection h with h1 h2
    exact ⟨e, List.mem_filter.2 ⟨he, by simpa [h1] using hy⟩, h2⟩

theorem reach_l1 (es : List (S × Int × S)) (out : List S) (it : Int) (hn : es.length ≤ 100000) (ho : out.length ≤ 2000000) (R : List ByteArray)
    (hE : Ev (fun k => (PQueryCalls.lanternref1_Sorted.f k ((out ++ goesTo out es).map U)).bind fun t => if (t.length : Int) = ((out.map U).length : Int) then some (out.map U) else PQueryCalls.lanternref22_Reach.l0 k (es.map toC50) t (wrap64 (it + 1))) R) :
    ∀ (m j : Nat), es.length - j = m → j ≤ es.length → Ev (fun k => PQueryCalls.lanternref22_Reach.l1 k (es.map toC50) (out.map U) it ((out ++ goesTo out (es.take j)).map U) (j : Int)) R := by
  intro m
  induction m with
  | zero =>
    intro j hm hj
    have : j = es.length := by omega
    subst this
    refine Ev.step (fun k => ?_) hE
    show PQueryCalls.lanternref22_Reach.l1 (k + 1) _ _ _ _ _ = _
    rw [PQueryCalls.lanternref22_Reach.l1]
    rw [if_neg (by simp), List.take_length]
  | succ m ih =>
    intro j hm hj
    have hlt : j < es.length := by omega
    have h1 := ih (j + 1) (by omega) (by omega)
    refine Ev.step (f := fun k => (PQueryCalls.lanternref1_Has.f k (out.map U) (U es[j].1)).bind fun t => if t = true then (if ((out ++ goesTo out (es.take j)).map U).length < 8796093022208 then PQueryCalls.lanternref22_Reach.l1 k (es.map toC50) (out.map U) it ((out ++ goesTo out (es.take j)).map U ++ [U es[j].2.2]) (wrap64 ((j : Int) + 1)) else none) else PQueryCalls.lanternref22_Reach.l1 k (es.map toC50) (out.map U) it ((out ++ goesTo out (es.take j)).map U) (wrap64 ((j : Int) + 1))) (fun k => ?_) (Ev.bind (f := fun k t => if t = true then (if ((out ++ goesTo out (es.take j)).map U).length < 8796093022208 then PQueryCalls.lanternref22_Reach.l1 k (es.map toC50) (out.map U) it ((out ++ goesTo out (es.take j)).map U ++ [U es[j].2.2]) (wrap64 ((j : Int) + 1)) else none) else PQueryCalls.lanternref22_Reach.l1 k (es.map toC50) (out.map U) it ((out ++ goesTo out (es.take j)).map U) (wrap64 ((j : Int) + 1))) (hasC out es[j].1 (by omega)) (Ev.congr (fun k => ?_) h1))
    · show PQueryCalls.lanternref22_Reach.l1 (k + 1) _ _ _ _ _ = _
      rw [PQueryCalls.lanternref22_Reach.l1]
      rw [if_pos (by simp; omega), if_pos (by omega), rdC es (List.getElem?_eq_getElem hlt)]
      rfl
    · have hg := goesTo_len out (es.take j)
      have hl : ((out ++ goesTo out (es.take j)).map U).length < 8796093022208 := by
        rw [List.length_map, List.length_append]
        rw [List.length_take] at hg
        omega
      rw [show wrap64 ((j : Int) + 1) = ((j + 1 : Nat) : Int) by unfold wrap64; omega, goesTo_snoc out es j hlt]
      by_cases h : es[j].1 ∈ out
      · rw [if_pos (by simpa using h), if_pos hl, if_pos h]
        simp
      · rw [if_neg (by simpa using h), if_neg h, List.append_nil]

/-- How many edges lead out of what is known. -/
def newTo (out : List S) (es : List (S × Int × S)) : Nat := (es.filter fun e => !decide (e.2.2 ∈ out)).length

theorem newTo_lt {out out' : List S} {es : List (S × Int × S)} (hsub : ∀ x, x ∈ out → x ∈ out') {x : S} (hx : x ∈ goesTo out es) (h1 : x ∉ out) (h2 : x ∈ out') : newTo out' es < newTo out es := by
  unfold goesTo at hx
  obtain ⟨e, he, rfl⟩ := List.mem_map.1 hx
  have hem := (List.mem_filter.1 he).1
  unfold newTo
  clear hx he
  have hle : ∀ l : List (S × Int × S), (l.filter fun e => !decide (e.2.2 ∈ out')).length ≤ (l.filter fun e => !decide (e.2.2 ∈ out)).length := by
    intro l
    induction l with
    | nil => exact Nat.le_refl _
    | cons a q ih =>
      rw [List.filter_cons, List.filter_cons]
      by_cases h : a.2.2 ∈ out
      · rw [if_neg (by simpa using hsub _ h), if_neg (by simpa using h)]
        exact ih
      · rw [if_pos (show (!decide (a.2.2 ∈ out)) = true by simpa using h)]
        split
        · simp; exact ih
        · simp; omega
  induction es with
  | nil => cases hem
  | cons a q ih =>
    rw [List.filter_cons, List.filter_cons]
    rcases List.mem_cons.1 hem with rfl | hm
    · rw [if_neg (by simpa using h2), if_pos (by simpa using h1)]
      have := hle q
      simp
      omega
    · have := ih hm
      by_cases h : a.2.2 ∈ out
      · rw [if_neg (by simpa using hsub _ h), if_neg (by simpa using h)]
        exact this
      · rw [if_pos (show (!decide (a.2.2 ∈ out)) = true by simpa using h)]
        split
        · simp; omega
        · simp; omega

theorem reach_len {es : List (S × Int × S)} {src out : List S} (h : SS out) (hr : ∀ x, x ∈ out → ∃ s, s ∈ src ∧ Conn (ends es) s x) : out.length ≤ src.length + es.length := by
  have := nodup_le out (src ++ es.map (·.2.2)) h.nodup fun x hx => by
    obtain ⟨s, hs, n, hw⟩ := hr x hx
    rw [List.mem_append]
    cases n with
    | zero => cases hw; exact .inl hs
    | succ n =>
      obtain ⟨b, _, hb⟩ := hw.unsnoc
      obtain ⟨e, he, q⟩ := List.mem_map.1 hb
      injection q with _ q
      exact .inr (List.mem_map.2 ⟨e, he, q⟩)
  rwa [List.length_append, List.length_map] at this

theorem reach_closed {es : List (S × Int × S)} {src out : List S} (h : SS out) (hs : ∀ x, x ∈ src → x ∈ out) (hr : ∀ x, x ∈ out → ∃ s, s ∈ src ∧ Conn (ends es) s x) (hc : ∀ x, x ∈ goesTo out es → x ∈ out) : IsReach (ends es) src out := by
  refine ⟨h, fun x => ⟨hr x, ?_⟩⟩
  rintro ⟨s, hsm, n, hw⟩
  have h0 := hs s hsm
  clear hsm
  induction hw with
  | nil => exact h0
  | cons h1 _ ih => exact ih (hc _ (mem_goesTo.2 ⟨_, h0, h1⟩))

theorem reach_step {es : List (S × Int × S)} {src : List S} (hn : es.length ≤ 100000) (hsl : src.length ≤ 100000) (out : List S) (i m : Nat) (hm : newTo out es ≤ m) (hi : i + m ≤ es.length) (hS : SS out) (hs : ∀ x, x ∈ src → x ∈ out) (hr : ∀ x, x ∈ out → ∃ s, s ∈ src ∧ Conn (ends es) s x)
    (hnext : ∀ r', newTo r' es < newTo out es → SS r' → (∀ x, x ∈ src → x ∈ r') → (∀ x, x ∈ r' → ∃ s, s ∈ src ∧ Conn (ends es) s x) → ∃ r, IsReach (ends es) src r ∧ Ev (fun k => PQueryCalls.lanternref22_Reach.l0 k (es.map toC50) (r'.map U) ((i + 1 : Nat) : Int)) (r.map U)) :
    ∃ r, IsReach (ends es) src r ∧ Ev (fun k => PQueryCalls.lanternref22_Reach.l0 k (es.map toC50) (out.map U) (i : Int)) (r.map U) := by
  have hol := reach_len hS hr
  have hgl := goesTo_len out es
  obtain ⟨r', q1, q2, q3⟩ := srt_f (out ++ goesTo out es) (by rw [List.length_append]; omega)
  have hsub : ∀ x, x ∈ out → x ∈ r' := fun x hx => (q1.2 x).2 (List.mem_append.2 (.inl hx))
  have enter : ∀ R, Ev (fun k => PQueryCalls.lanternref22_Reach.l1 k (es.map toC50) (out.map U) (i : Int) ((out ++ goesTo out (es.take 0)).map U) ((0 : Nat) : Int)) R → Ev (fun k => PQueryCalls.lanternref22_Reach.l0 k (es.map toC50) (out.map U) (i : Int)) R := by
    intro R h
    refine Ev.step (fun k => ?_) h
    show PQueryCalls.lanternref22_Reach.l0 (k + 1) _ _ _ = _
    rw [PQueryCalls.lanternref22_Reach.l0]
    rw [if_pos (by rw [show wrap64 (((es.map toC50).length : Int) + 1) = (es.length : Int) + 1 by rw [List.length_map]; unfold wrap64; omega]; omega), Option.bind_some, if_pos (by simp; omega)]
    simp [goesTo]
  by_cases he : r'.length = out.length
  · have hback : ∀ x, x ∈ r' → x ∈ out := fun x hx => by
      apply Classical.byContradiction
      intro hno
      have := nodup_le (x :: out) r' (List.nodup_cons.2 ⟨hno, hS.nodup⟩) fun y hy => by
        rcases List.mem_cons.1 hy with rfl | hy
        · exact hx
        · exact hsub y hy
      simp at this
      omega
    refine ⟨out, reach_closed hS hs hr fun x hx => hback x ((q1.2 x).2 (List.mem_append.2 (.inr hx))), enter _ (reach_l1 es out i hn (by omega) _ ?_ es.length 0 (by omega) (by omega))⟩
    refine Ev.bind (f := fun k t => if (t.length : Int) = ((out.map U).length : Int) then some (out.map U) else PQueryCalls.lanternref22_Reach.l0 k (es.map toC50) t (wrap64 ((i : Int) + 1))) q3 (Ev.congr (fun k => ?_) (Ev.now _))
    rw [if_pos (by simp [he])]
  · obtain ⟨x, hx, hno⟩ : ∃ x, x ∈ r' ∧ x ∉ out := by
      apply Classical.byContradiction
      intro hno
      apply he
      have h1 := nodup_le r' out q1.1.nodup fun x hx => by
        apply Classical.byContradiction
        intro h
        exact hno ⟨x, hx, h⟩
      have h2 := nodup_le out r' hS.nodup hsub
      omega
    have hxg : x ∈ goesTo out es := by
      rcases List.mem_append.1 ((q1.2 x).1 hx) with h | h
      · exact absurd h hno
      · exact h
    have hlt := newTo_lt hsub hxg hno hx
    obtain ⟨r, r1, r2⟩ := hnext r' hlt q1.1 (fun x hx => hsub x (hs x hx)) fun x hx => by
      rcases List.mem_append.1 ((q1.2 x).1 hx) with h | h
      · exact hr x h
      · obtain ⟨y, hy, hyx⟩ := mem_goesTo.1 h
        obtain ⟨s, hs', hc⟩ := hr y hy
        exact ⟨s, hs', hc.trans (.edge hyx)⟩
    refine ⟨r, r1, enter _ (reach_l1 es out i hn (by omega) _ ?_ es.length 0 (by omega) (by omega))⟩
    refine Ev.bind (f := fun k t => if (t.length : Int) = ((out.map U).length : Int) then some (out.map U) else PQueryCalls.lanternref22_Reach.l0 k (es.map toC50) t (wrap64 ((i : Int) + 1))) q3 (Ev.congr (fun k => ?_) r2)
    rw [if_neg (by simp; omega), show wrap64 ((i : Int) + 1) = ((i + 1 : Nat) : Int) by unfold wrap64; omega]

theorem reach_l0 (es : List (S × Int × S)) (src : List S) (hn : es.length ≤ 100000) (hsl : src.length ≤ 100000) : ∀ (m : Nat) (out : List S) (i : Nat), newTo out es ≤ m → i + m ≤ es.length → SS out → (∀ x, x ∈ src → x ∈ out) → (∀ x, x ∈ out → ∃ s, s ∈ src ∧ Conn (ends es) s x) →
    ∃ r, IsReach (ends es) src r ∧ Ev (fun k => PQueryCalls.lanternref22_Reach.l0 k (es.map toC50) (out.map U) (i : Int)) (r.map U) := by
  intro m
  induction m with
  | zero =>
    intro out i hm hi hS hs hr
    exact reach_step hn hsl out i 0 hm hi hS hs hr fun r' hlt _ _ _ => absurd hlt (by omega)
  | succ m ih =>
    intro out i hm hi hS hs hr
    exact reach_step hn hsl out i (m + 1) hm hi hS hs hr fun r' hlt h1 h2 h3 => ih r' (i + 1) (by omega) (by omega) h1 h2 h3

/-- Reach: all that can be come to. -/
theorem reach_f (es : List (S × Int × S)) (src : List S) (hn : es.length ≤ 100000) (hsl : src.length ≤ 100000) : ∃ r, IsReach (ends es) src r ∧ r.length ≤ src.length + es.length ∧ Ev (fun k => PQueryCalls.lanternref22_Reach.f k (es.map toC50) (src.map U)) (r.map U) := by
  obtain ⟨o, o1, o2, o3⟩ := srt_f src (by omega)
  obtain ⟨r, r1, r2⟩ := reach_l0 es src hn hsl es.length o 0 (List.length_filter_le _ _) (by omega) o1.1 (fun x hx => (o1.2 x).2 hx) (fun x hx => ⟨x, (o1.2 x).1 hx, .refl _ _⟩)
  exact ⟨r, r1, reach_len r1.1 fun x hx => (r1.2 x).1 hx, Ev.congr (fun _ => rfl) (Ev.bind (f := fun k t => PQueryCalls.lanternref22_Reach.l0 k (es.map toC50) t 0) o3 r2)⟩
end Go.Proofs.Ytljfknneijmfoaa
namespace Go.Proofs.Ytljfknneijmfoaa
open Go.RowKit Go.Maps Go.WideMaps
open Go.Proofs.YtljfknneijmfoaaW.PrintWords

/-- A step, and a call in it. -/
theorem Ev.sb {α β : Type} {g : Nat → Option β} {h : Nat → Option α} {f : Nat → α → Option β} {a : α} {r : β} (e : ∀ k, g (k + 1) = (h k).bind (f k)) (h1 : Ev h a) (h2 : Ev (fun k => f k a) r) : Ev g r := Ev.step e (Ev.bind h1 h2)

noncomputable def mutB (E : Es) (a b : S) : Bool := @decide (Mut E a b) (Classical.propDecidable _)
theorem mutB_iff {E : Es} {a b : S} : mutB E a b = true ↔ Mut E a b := by unfold mutB; exact @decide_eq_true_iff _ (Classical.propDecidable _)

theorem reach_one_mem {E : Es} {a : S} {r : List S} (h : IsReach E [a] r) (x : S) : x ∈ r ↔ Conn E a x := by
  rw [h.2 x]
  constructor
  · rintro ⟨s, hs, hc⟩
    simp at hs
    subst hs
    exact hc
  · exact fun hc => ⟨a, by simp, hc⟩

theorem both_f (es : List (S × Int × S)) (a b : S) (hn : es.length ≤ 100000) : Ev (fun k => PQueryCalls.lanternref22_both.f k (es.map toC50) (U a) (U b)) (mutB (ends es) a b) := by
  obtain ⟨r, r1, r2, r3⟩ := reach_f es [a] hn (by simp)
  obtain ⟨q, q1, q2, q3⟩ := reach_f es [b] hn (by simp)
  have hr := reach_one_mem r1 b
  have hq := reach_one_mem q1 a
  simp at r2 q2
  refine Ev.congr (f := fun k => (PQueryCalls.lanternref22_Reach.f k (es.map toC50) ([a].map U)).bind fun t => (PQueryCalls.lanternref1_Has.f k t (U b)).bind fun t2 => if t2 = true then ((PQueryCalls.lanternref22_Reach.f k (es.map toC50) ([b].map U)).bind fun t3 => (PQueryCalls.lanternref1_Has.f k t3 (U a)).bind fun t4 => some t4) else some false) (fun k => rfl) ?_
  refine Ev.bind r3 (Ev.bind (hasC r b (by omega)) ?_)
  by_cases h : b ∈ r
  · refine Ev.congr (f := fun k => ((PQueryCalls.lanternref22_Reach.f k (es.map toC50) ([b].map U)).bind fun t3 => (PQueryCalls.lanternref1_Has.f k t3 (U a)).bind fun t4 => some t4)) (fun k => by rw [if_pos (by simpa using h)]) ?_
    refine Ev.bind q3 ?_
    have e : mutB (ends es) a b = decide (a ∈ q) := by
      rw [Bool.eq_iff_iff, mutB_iff, decide_eq_true_iff, hq]
      exact ⟨fun m => m.2, fun c => ⟨hr.1 h, c⟩⟩
    rw [e]
    exact Ev.bind (hasC q a (by omega)) (Ev.now _)
  · have e : mutB (ends es) a b = false := by
      rw [← Bool.not_eq_true, mutB_iff]
      exact fun m => h (hr.2 m.1)
    rw [e]
    exact Ev.congr (f := fun _ => some false) (fun k => by rw [if_neg (by simpa using h)]) (Ev.now _)

/-- Those from the i-th on that go in a ring with s. -/
noncomputable def ringFrom (E : Es) (xs : List S) (s : S) (i j : Nat) : List S := ((xs.drop i).take j).filter (mutB E s)

theorem ringFrom_succ {E : Es} {xs : List S} {s t : S} {i j : Nat} (h : xs[i + j]? = some t) : ringFrom E xs s i (j + 1) = ringFrom E xs s i j ++ (if mutB E s t = true then [t] else []) := by
  unfold ringFrom
  rw [List.take_add_one, List.getElem?_drop, h, Option.toList_some, List.filter_append]
  congr 1
  rw [List.filter_cons, List.filter_nil]

theorem ringFrom_len (E : Es) (xs : List S) (s : S) (i j : Nat) : (ringFrom E xs s i j).length ≤ xs.length := by
  unfold ringFrom
  refine Nat.le_trans (List.length_filter_le _ _) ?_
  rw [List.length_take, List.length_drop]
  omega

theorem rings_l1 (es : List (S × Int × S)) (xs : List S) (gs : List (List S)) (done : List S) (i : Nat) (s : S) (hs : xs[i]? = some s) (hn : es.length ≤ 100000) (hx : xs.length ≤ 1000000) (R : List (List ByteArray))
    (hE : Ev (fun k => PQueryCalls.lanternref22_Rings.l1 k (es.map toC50) (xs.map U) (gs.map (·.map U)) (done.map U) (i : Int) ((ringFrom (ends es) xs s i (xs.length - i)).map U) (xs.length : Int)) R) :
    ∀ (m j : Nat), xs.length - i - j = m → i + j ≤ xs.length → Ev (fun k => PQueryCalls.lanternref22_Rings.l1 k (es.map toC50) (xs.map U) (gs.map (·.map U)) (done.map U) (i : Int) ((ringFrom (ends es) xs s i j).map U) ((i + j : Nat) : Int)) R := by
  have hi := (List.getElem?_eq_some_iff.1 hs).1
  intro m
  induction m with
  | zero =>
    intro j hm hj
    have e : j = xs.length - i := by omega
    have e2 : i + j = xs.length := by omega
    rw [e2, e]
    exact hE
  | succ m ih =>
    intro j hm hj
    obtain ⟨t, ht⟩ : ∃ t, xs[i + j]? = some t := ⟨_, List.getElem?_eq_getElem (by omega)⟩
    have h1 := ih (j + 1) (by omega) (by omega)
    rw [ringFrom_succ ht] at h1
    have hl := ringFrom_len (ends es) xs s i j
    have hw : wrap64 (((i + j : Nat) : Int) + 1) = ((i + (j + 1) : Nat) : Int) := by unfold wrap64; omega
    by_cases hj0 : j = 0
    · subst hj0
      have hts : t = s := by
        rw [Nat.add_zero] at ht
        rw [hs] at ht
        exact (Option.some.inj ht).symm
      subst hts
      rw [if_pos (mutB_iff.2 (Mut.refl _ _))] at h1
      refine Ev.step (fun k => ?_) h1
      show PQueryCalls.lanternref22_Rings.l1 (k + 1) _ _ _ _ _ _ _ = _
      rw [PQueryCalls.lanternref22_Rings.l1]
      rw [if_pos (by simp; omega), if_pos (by simp), if_pos (by omega), if_pos (by simp; omega), hw, rds_of ht, List.map_append]
      rfl
    · refine Ev.sb (f := fun k b => if b = true then (if ((ringFrom (ends es) xs s i j).map U).length < 8796093022208 then PQueryCalls.lanternref22_Rings.l1 k (es.map toC50) (xs.map U) (gs.map (·.map U)) (done.map U) (i : Int) ((ringFrom (ends es) xs s i j).map U ++ [U t]) ((i + (j + 1) : Nat) : Int) else none) else PQueryCalls.lanternref22_Rings.l1 k (es.map toC50) (xs.map U) (gs.map (·.map U)) (done.map U) (i : Int) ((ringFrom (ends es) xs s i j).map U) ((i + (j + 1) : Nat) : Int)) (fun k => ?_) (both_f es s t hn) (Ev.congr (fun k => ?_) h1)
      · show PQueryCalls.lanternref22_Rings.l1 (k + 1) _ _ _ _ _ _ _ = _
        rw [PQueryCalls.lanternref22_Rings.l1]
        rw [if_pos (by simp; omega), if_neg (by omega), if_pos (by omega), if_pos (by simp; omega), if_pos (by omega), hw, rds_of ht, rds_of hs]
      · by_cases hm : mutB (ends es) s t = true
        · rw [if_pos hm, if_pos hm, if_pos (by simp; omega), List.map_append]
          rfl
        · rw [if_neg hm, if_neg hm, List.append_nil]

theorem mem_ringOf' {E : Es} {xs : List S} {s t : S} : t ∈ ringOf E xs s ↔ t ∈ xs ∧ Mut E s t := by
  unfold ringOf
  simp only [List.mem_filter, decide_eq_true_eq]

theorem ss_ringOf {E : Es} {xs : List S} {s : S} (hX : IsNodes E xs) : SS (ringOf E xs s) := List.Pairwise.filter _ hX.1

/-- Who has been in a ring, or stood alone, among the first i. -/
def Done (E : Es) (xs : List S) (i : Nat) (done : List S) : Prop := done.Nodup ∧ ∀ t, t ∈ done ↔ t ∈ xs ∧ ∃ u, u ∈ xs.take i ∧ Mut E u t

theorem ringOf_from {E : Es} {xs done : List S} {i : Nat} {s : S} (hX : IsNodes E xs) (hD : Done E xs i done) (hs : xs[i]? = some s) (hno : s ∉ done) : ringFrom E xs s i (xs.length - i) = ringOf E xs s := by
  have hi := (List.getElem?_eq_some_iff.1 hs).1
  unfold ringFrom
  rw [List.take_of_length_le (by rw [List.length_drop]; exact Nat.le_refl _)]
  refine SS.ext (List.Pairwise.sublist (List.filter_sublist.trans (List.drop_sublist i xs)) hX.1) (ss_ringOf hX) fun t => ?_
  rw [List.mem_filter, mutB_iff, mem_ringOf']
  constructor
  · rintro ⟨h1, h2⟩
    exact ⟨List.mem_of_mem_drop h1, h2⟩
  · rintro ⟨h1, h2⟩
    refine ⟨?_, h2⟩
    have h3 := List.take_append_drop i xs
    rw [← h3, List.mem_append] at h1
    rcases h1 with h | h
    · exact absurd ((hD.2 s).2 ⟨List.mem_of_getElem? hs, t, h, h2.symm⟩) hno
    · exact h

theorem Done.add {E : Es} {xs done : List S} {i : Nat} {s : S} (hX : IsNodes E xs) (hD : Done E xs i done) (hs : xs[i]? = some s) (hno : s ∉ done) : Done E xs (i + 1) (done ++ ringOf E xs s) := by
  have hmem : ∀ t, t ∈ ringOf E xs s ↔ t ∈ xs ∧ Mut E s t := fun t => mem_ringOf'
  refine ⟨List.nodup_append.2 ⟨hD.1, (ss_ringOf hX).nodup, fun a ha b hb e => ?_⟩, fun t => ?_⟩
  · subst e
    obtain ⟨_, u, hu, hm⟩ := (hD.2 a).1 ha
    exact hno ((hD.2 s).2 ⟨List.mem_of_getElem? hs, u, hu, hm.trans ((hmem a).1 hb).2.symm⟩)
  · rw [List.mem_append, hD.2, hmem]
    constructor
    · rintro (⟨h1, u, h2, h3⟩ | ⟨h1, h2⟩)
      · exact ⟨h1, u, (take_succ_mem hs).2 (.inl h2), h3⟩
      · exact ⟨h1, s, (take_succ_mem hs).2 (.inr rfl), h2⟩
    · rintro ⟨h1, u, h2, h3⟩
      rcases (take_succ_mem hs).1 h2 with h | rfl
      · exact .inl ⟨h1, u, h, h3⟩
      · exact .inr ⟨h1, h3⟩

theorem Done.skip {E : Es} {xs done : List S} {i : Nat} {s : S} (hD : Done E xs i done) (hs : xs[i]? = some s) (hin : s ∈ done) : Done E xs (i + 1) done := by
  refine ⟨hD.1, fun t => (hD.2 t).trans ⟨?_, ?_⟩⟩
  · rintro ⟨h1, u, h2, h3⟩
    exact ⟨h1, u, (take_succ_mem hs).2 (.inl h2), h3⟩
  · rintro ⟨h1, u, h2, h3⟩
    rcases (take_succ_mem hs).1 h2 with h | rfl
    · exact ⟨h1, u, h, h3⟩
    · obtain ⟨_, v, hv, hm⟩ := (hD.2 u).1 hin
      exact ⟨h1, v, hv, hm.trans h3⟩

/-- Done, and in a ring that was found: or never in one. -/
theorem done_ring {E : Es} {xs done : List S} {gs : List (List S)} {i : Nat} {s : S} (hX : IsNodes E xs) (hR : RS E xs i gs) (hD : Done E xs i done) (hs : xs[i]? = some s) (hin : s ∈ done) : ∃ g, g ∈ gs ∧ s ∈ g := by
  obtain ⟨_, u, hu, hm⟩ := (hD.2 s).1 hin
  have hlt := lt_of_take hX.1 hs hu
  have hne : u ≠ s := fun e => by rw [e] at hlt; exact Std.lt_irrefl hlt
  have hc := hm.cyc hne
  have hring := ringOf_ring hX hc
  have hmu := (mem_ringOf hX hc).2 (Mut.refl E u)
  refine ⟨ringOf E xs u, (hR.mem _).2 ⟨hring, ?_⟩, (mem_ringOf hX hc).2 hm⟩
  have h1 := hd_le hring.1 hmu
  have h2 : hd (ringOf E xs u) ∈ xs := (hX.2 _).2 (hring.cyc (hd_mem hring.ne_nil)).node
  refine take_of_lt hX.1 hs h2 ?_
  rcases Std.le_iff_lt_or_eq.1 h1 with h | h
  · exact Std.lt_trans h hlt
  · rw [h]; exact hlt

theorem ring_found {E : Es} {xs done : List S} {gs : List (List S)} {i : Nat} {s : S} (hR : RS E xs i gs) (hD : Done E xs i done) (hs : xs[i]? = some s) (hno : s ∉ done) : ¬ ∃ g, g ∈ gs ∧ s ∈ g := by
  rintro ⟨g, hg, hsg⟩
  obtain ⟨h1, h2⟩ := (hR.mem g).1 hg
  exact hno ((hD.2 s).2 ⟨List.mem_of_getElem? hs, hd g, h2, h1.mem_mut (hd_mem h1.ne_nil) hsg⟩)

/-- A ring of one is one just if it leads to itself. -/
theorem ring_one {es : List (S × Int × S)} {xs : List S} {s : S} (hX : IsNodes (ends es) xs) (hs : s ∈ xs) : (1 < (ringOf (ends es) xs s).length ∨ (s, s) ∈ ends es) ↔ Cyc (ends es) s := by
  have hmem : ∀ t, t ∈ ringOf (ends es) xs s ↔ t ∈ xs ∧ Mut (ends es) s t := fun t => mem_ringOf'
  have hnd : (ringOf (ends es) xs s).Nodup := (ss_ringOf hX).nodup
  constructor
  · rintro (h | h)
    · obtain ⟨t, ht, hne⟩ : ∃ t, t ∈ ringOf (ends es) xs s ∧ t ≠ s := by
        apply Classical.byContradiction
        intro hno
        have := nodup_le (ringOf (ends es) xs s) [s] hnd fun x hx => by
          apply Classical.byContradiction
          intro h
          exact hno ⟨x, hx, fun e => h (by simp [e])⟩
        simp at this
        omega
      exact ((hmem t).1 ht).2.cyc (fun e => hne e.symm)
    · exact ⟨s, h, .refl _ _⟩
  · intro hc
    obtain ⟨b, hb, hcb⟩ := hc
    by_cases e : b = s
    · subst e
      exact .inr hb
    · left
      have hbx : b ∈ xs := (hX.2 b).2 ⟨s, .inr hb⟩
      have := nodup_le [s, b] (ringOf (ends es) xs s) (by simpa using fun h => e h.symm) fun x hx => by
        simp at hx
        rcases hx with rfl | rfl
        · exact (hmem _).2 ⟨hs, Mut.refl _ _⟩
        · exact (hmem _).2 ⟨hbx, .edge hb, hcb⟩
      simp at this
      omega

theorem done_len {E : Es} {xs done : List S} {i : Nat} (hD : Done E xs i done) : done.length ≤ xs.length := nodup_le done xs hD.1 fun x hx => ((hD.2 x).1 hx).1

theorem rings_l0 (es : List (S × Int × S)) (xs : List S) (hX : IsNodes (ends es) xs) (hn : es.length ≤ 100000) (hx : xs.length ≤ 1000000) : ∀ (m i : Nat) (gs : List (List S)) (done : List S), xs.length - i = m → i ≤ xs.length → RS (ends es) xs i gs → Done (ends es) xs i done → gs.length ≤ i →
    ∃ r, IsRings (ends es) r ∧ r.length ≤ xs.length ∧ Ev (fun k => PQueryCalls.lanternref22_Rings.l0 k (es.map toC50) (xs.map U) (gs.map (·.map U)) (done.map U) (i : Int)) (r.map (·.map U)) := by
  intro m
  induction m with
  | zero =>
    intro i gs done hm hi hR hD hg
    have : i = xs.length := by omega
    subst this
    refine ⟨gs, hR.all hX, hg, Ev.step (f := fun _ => some (gs.map (·.map U))) (fun k => ?_) (Ev.now _)⟩
    show PQueryCalls.lanternref22_Rings.l0 (k + 1) _ _ _ _ _ = _
    rw [PQueryCalls.lanternref22_Rings.l0]
    rw [if_neg (by simp)]
  | succ m ih =>
    intro i gs done hm hi hR hD hg
    have hlt : i < xs.length := by omega
    obtain ⟨s, hs⟩ : ∃ s, xs[i]? = some s := ⟨_, List.getElem?_eq_getElem hlt⟩
    have hw : wrap64 ((i : Int) + 1) = ((i + 1 : Nat) : Int) := by unfold wrap64; omega
    have hdl := done_len hD
    -- the step to the question whether it was met
    have enter : ∀ (R : List (List ByteArray)), Ev (fun k => if decide (s ∈ done) = true then PQueryCalls.lanternref22_Rings.l0 k (es.map toC50) (xs.map U) (gs.map (·.map U)) (done.map U) ((i + 1 : Nat) : Int) else PQueryCalls.lanternref22_Rings.l1 k (es.map toC50) (xs.map U) (gs.map (·.map U)) (done.map U) (i : Int) [] (i : Int)) R →
        Ev (fun k => PQueryCalls.lanternref22_Rings.l0 k (es.map toC50) (xs.map U) (gs.map (·.map U)) (done.map U) (i : Int)) R := fun R h => by
      refine Ev.sb (f := fun k b => if b = true then PQueryCalls.lanternref22_Rings.l0 k (es.map toC50) (xs.map U) (gs.map (·.map U)) (done.map U) ((i + 1 : Nat) : Int) else PQueryCalls.lanternref22_Rings.l1 k (es.map toC50) (xs.map U) (gs.map (·.map U)) (done.map U) (i : Int) [] (i : Int)) (fun k => ?_) (hasC done s (by omega)) h
      show PQueryCalls.lanternref22_Rings.l0 (k + 1) _ _ _ _ _ = _
      rw [PQueryCalls.lanternref22_Rings.l0]
      rw [if_pos (by simp; omega), if_pos (by omega), rds_of hs, hw]
    by_cases hin : s ∈ done
    · obtain ⟨r, r1, r2, r3⟩ := ih (i + 1) gs done (by omega) hlt (hR.done hs (done_ring hX hR hD hs hin)) (hD.skip hs hin) (by omega)
      exact ⟨r, r1, r2, enter _ (Ev.congr (fun k => by rw [if_pos (by simpa using hin)]) r3)⟩
    · have hno := ring_found hR hD hs hin
      have hfrom := ringOf_from hX hD hs hin
      have hadd := hD.add hX hs hin
      have hone := ring_one hX (List.mem_of_getElem? hs)
      have hal := done_len hadd
      rw [List.length_append] at hal
      -- what stands behind the inner loop
      have leave : ∀ (R : List (List ByteArray)), Ev (fun k => PQueryCalls.lanternref22_Rings.l1 k (es.map toC50) (xs.map U) (gs.map (·.map U)) (done.map U) (i : Int) ((ringOf (ends es) xs s).map U) (xs.length : Int)) R →
          Ev (fun k => PQueryCalls.lanternref22_Rings.l0 k (es.map toC50) (xs.map U) (gs.map (·.map U)) (done.map U) (i : Int)) R := fun R h => by
        refine enter R (Ev.congr (f := fun k => PQueryCalls.lanternref22_Rings.l1 k (es.map toC50) (xs.map U) (gs.map (·.map U)) (done.map U) (i : Int) ((ringFrom (ends es) xs s i 0).map U) ((i + 0 : Nat) : Int)) (fun k => ?_) (rings_l1 es xs gs done i s hs hn hx R ?_ (xs.length - i) 0 (by omega) (by omega)))
        · rw [if_neg (by simpa using hin)]
          simp [ringFrom]
        · rw [hfrom]
          exact h
      obtain ⟨fA, hA⟩ : ∃ fA, fA = fun k => PQueryCalls.lanternref22_Rings.l0 k (es.map toC50) (xs.map U) ((gs ++ [ringOf (ends es) xs s]).map (·.map U)) ((done ++ ringOf (ends es) xs s).map U) ((i + 1 : Nat) : Int) := ⟨_, rfl⟩
      obtain ⟨fB, hB⟩ : ∃ fB, fB = fun k => PQueryCalls.lanternref22_Rings.l0 k (es.map toC50) (xs.map U) (gs.map (·.map U)) ((done ++ ringOf (ends es) xs s).map U) ((i + 1 : Nat) : Int) := ⟨_, rfl⟩
      have e1 : ∀ k, PQueryCalls.lanternref22_Rings.l1 (k + 1) (es.map toC50) (xs.map U) (gs.map (·.map U)) (done.map U) (i : Int) ((ringOf (ends es) xs s).map U) (xs.length : Int) = if ((ringOf (ends es) xs s).length : Int) > 1 then fA k
          else (PQueryCalls.lanternref22_next.f k (es.map toC50) (U s)).bind fun t => (PQueryCalls.lanternref1_Has.f k t (U s)).bind fun b => if b = true then fA k else fB k := fun k => by
        rw [PQueryCalls.lanternref22_Rings.l1, hA, hB]
        rw [if_neg (by simp), if_pos (by simp; omega), Option.bind_some, hw, rds_of hs, if_pos (by simp; omega : (gs.map (·.map U)).length < 5864062014805), if_pos (by omega : (0 : Int) ≤ (i : Int)), if_pos (by simp; omega : (i : Int) < ((xs.map U).length : Int))]
        simp only [List.length_map, List.map_append, List.map_cons, List.map_nil]
      by_cases hcy : Cyc (ends es) s
      · obtain ⟨r, r1, r2, r3⟩ := ih (i + 1) (gs ++ [ringOf (ends es) xs s]) (done ++ ringOf (ends es) xs s) (by omega) hlt (hR.new hX hs hcy hno) hadd (by simp; omega)
        refine ⟨r, r1, r2, leave _ ?_⟩
        by_cases hl : ((ringOf (ends es) xs s).length : Int) > 1
        · exact Ev.step (f := fA) (fun k => by rw [e1, if_pos hl]) (by rw [hA]; exact r3)
        · have hss : (s, s) ∈ ends es := by
            rcases hone.2 hcy with h | h
            · exact absurd h (by omega)
            · exact h
          obtain ⟨q, q1, q2, q3⟩ := next_f es s (by omega)
          have hsq : s ∈ q := (q1.2 s).2 (mem_outsOf.2 hss)
          exact Ev.step (f := fun k => (PQueryCalls.lanternref22_next.f k (es.map toC50) (U s)).bind fun t => (PQueryCalls.lanternref1_Has.f k t (U s)).bind fun b => if b = true then fA k else fB k) (fun k => by rw [e1, if_neg hl])
            (Ev.bind (f := fun k t => (PQueryCalls.lanternref1_Has.f k t (U s)).bind fun b => if b = true then fA k else fB k) q3 (Ev.bind (f := fun k b => if b = true then fA k else fB k) (hasC q s (by omega)) (Ev.congr (f := fA) (fun k => by rw [if_pos (by simpa using hsq)]) (by rw [hA]; exact r3))))
      · obtain ⟨r, r1, r2, r3⟩ := ih (i + 1) gs (done ++ ringOf (ends es) xs s) (by omega) hlt (hR.nocyc hs hcy) hadd (by omega)
        refine ⟨r, r1, r2, leave _ ?_⟩
        have hl : ¬ ((ringOf (ends es) xs s).length : Int) > 1 := fun h => hcy (hone.1 (.inl (by omega)))
        obtain ⟨q, q1, q2, q3⟩ := next_f es s (by omega)
        have hsq : ¬ s ∈ q := fun h => hcy (hone.1 (.inr (mem_outsOf.1 ((q1.2 s).1 h))))
        exact Ev.step (f := fun k => (PQueryCalls.lanternref22_next.f k (es.map toC50) (U s)).bind fun t => (PQueryCalls.lanternref1_Has.f k t (U s)).bind fun b => if b = true then fA k else fB k) (fun k => by rw [e1, if_neg hl])
          (Ev.bind (f := fun k t => (PQueryCalls.lanternref1_Has.f k t (U s)).bind fun b => if b = true then fA k else fB k) q3 (Ev.bind (f := fun k b => if b = true then fA k else fB k) (hasC q s (by omega)) (Ev.congr (f := fB) (fun k => by rw [if_neg (by simpa using hsq)]) (by rw [hB]; exact r3))))

/-- The reference's rings. -/
theorem rings_f (es : List (S × Int × S)) (hn : es.length ≤ 100000) : ∃ r, IsRings (ends es) r ∧ r.length ≤ 200000 ∧ (∀ g ∈ r, g.length ≤ 200000) ∧ Ev (fun k => PQueryCalls.lanternref22_Rings.f k (es.map toC50)) (r.map (·.map U)) := by
  obtain ⟨xs, hX, hl, hE⟩ := nodes_f es hn
  obtain ⟨r, r1, r2, r3⟩ := rings_l0 es xs hX hn (by omega) xs.length 0 [] [] (by omega) (by omega) RS.start ⟨List.nodup_nil, fun t => by simp⟩ (Nat.le_refl _)
  refine ⟨r, r1, by omega, fun g hg => ?_, Ev.congr (fun _ => rfl) (Ev.bind (f := fun k t => PQueryCalls.lanternref22_Rings.l0 k (es.map toC50) t [] [] 0) hE r3)⟩
  have hr := (r1.2 g).1 hg
  have := nodup_le g xs hr.1.nodup fun x hx => (hX.2 x).2 (hr.cyc hx).node
  omega
end Go.Proofs.Ytljfknneijmfoaa
