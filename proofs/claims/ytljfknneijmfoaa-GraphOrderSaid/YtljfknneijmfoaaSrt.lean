import Derived.Test.YtljfknneijmfoaaQs
import Derived.Test.YtljfknneijmfoaaFd0
namespace Go.Proofs.Ytljfknneijmfoaa
open Go.RowKit Go.Maps Go.WideMaps
open Go.Proofs.YtljfknneijmfoaaW.PrintWords
open PQueryCalls (lanternref1_Sorted.l0 lanternref1_Sorted.l1 lanternref1_Sorted.l2 lanternref1_Sorted.j2 lanternref1_Sorted.j3)

theorem rds_of {l : List S} {i : Nat} {z : S} (h : l[i]? = some z) : rdOf ByteArray.empty (l.map U) (i : Int) = U z := by
  simp [rdOf, List.getD_eq_getElem?_getD, h]

theorem less_U (x y : S) : Op.bytesLess (U x).toList (U y).toList = decide (x < y) := by rw [toList_U, toList_U, Go.Proofs.bytesLess_eq]

theorem srt_l2 (xs acc : List S) (i at' : Nat) (x : S) (hi : xs[i]? = some x) (hat : at' ≤ acc.length) (hn : acc.length ≤ 1000000) (hin : i ≤ 1000000) :
    ∀ (m p : Nat) (y : List S), p = at' + m → p ≤ acc.length → y.length = acc.length + 1 → (∀ j, j < p → y[j]? = acc[j]?) → (∀ j, p ≤ j → y[j + 1]? = acc[j]?) →
    ∀ R, Ev (fun k => lanternref1_Sorted.l0 k (xs.map U) ((acc.take at' ++ x :: acc.drop at').map U) ((i + 1 : Nat) : Int)) R → Ev (fun k => lanternref1_Sorted.l2 k (xs.map U) (y.map U) (i : Int) (at' : Int) (p : Int)) R := by
  intro m
  induction m with
  | zero =>
    intro p y hp hpn hy h1 h2 R hR
    have hil : i < xs.length := (List.getElem?_eq_some_iff.1 hi).1
    have hpa : p = at' := by omega
    subst hpa
    have he : y.set p x = acc.take p ++ x :: acc.drop p := by
      apply List.ext_getElem?
      intro j
      rw [List.getElem?_set]
      by_cases hj : p = j
      · subst hj
        rw [if_pos rfl, if_pos (by omega), List.getElem?_append_right (by rw [List.length_take]; exact Nat.min_le_left _ _)]
        simp [Nat.min_eq_left hpn]
      · rw [if_neg hj]
        by_cases hlt : j < p
        · rw [h1 j hlt, List.getElem?_append_left (by simp; omega), List.getElem?_take_of_lt hlt]
        · obtain ⟨q, rfl⟩ : ∃ q, j = q + 1 := ⟨j - 1, by omega⟩
          rw [h2 q (by omega), List.getElem?_append_right (by simp; omega)]
          rw [List.length_take, Nat.min_eq_left hpn, show q + 1 - p = (q - p) + 1 by omega, List.getElem?_cons_succ, List.getElem?_drop]
          congr 1
          omega
    refine Ev.step (fun k => ?_) hR
    show lanternref1_Sorted.l2 (k + 1) _ _ _ _ _ = _
    rw [lanternref1_Sorted.l2]
    rw [if_neg (by omega), if_pos (by omega), if_pos (by simp; omega), if_pos (by omega), if_pos (by simp; omega), rds_of hi, Int.toNat_natCast, ← List.map_set, he]
    rw [show wrap64 ((i : Int) + 1) = ((i + 1 : Nat) : Int) by unfold wrap64; omega]
  | succ m ih =>
    intro p y hp hpn hy h1 h2 R hR
    obtain ⟨q, rfl⟩ : ∃ q, p = q + 1 := ⟨p - 1, by omega⟩
    obtain ⟨z, hz⟩ : ∃ z, acc[q]? = some z := ⟨_, List.getElem?_eq_getElem (by omega)⟩
    have hyq : y[q]? = some z := by rw [h1 q (by omega), hz]
    refine Ev.step (fun k => ?_) (ih q (y.set (q + 1) z) (by omega) (by omega) (by simpa using hy) ?_ ?_ R hR)
    · show lanternref1_Sorted.l2 (k + 1) _ _ _ _ _ = _
      rw [lanternref1_Sorted.l2]
      have hw : wrap64 (((q + 1 : Nat) : Int) - 1) = (q : Int) := by unfold wrap64; omega
      rw [hw]
      clear hw
      rw [if_pos (by omega), if_pos (by omega), if_pos (by simp; omega), if_pos (by omega), if_pos (by simp; omega), rds_of hyq, Int.toNat_natCast, List.map_set]
    · intro j hj
      rw [List.getElem?_set_ne (by omega), h1 j (by omega)]
    · intro j hj
      by_cases hjq : j = q
      · subst hjq
        rw [List.getElem?_set_self (by omega), hz]
      · rw [List.getElem?_set_ne (by omega), h2 j (by omega)]

/-- One more string among those that ascend. -/
def InsS (acc : List S) (x : S) (acc' : List S) : Prop := SS acc' ∧ (∀ z, z ∈ acc' ↔ z ∈ acc ∨ z = x) ∧ acc'.length ≤ acc.length + 1

theorem ss_ins {acc : List S} {x : S} {n : Nat} (h : SS acc) (h1 : ∀ j z, j < n → acc[j]? = some z → z < x) (h2 : ∀ j z, n ≤ j → acc[j]? = some z → x < z) : InsS acc x (acc.take n ++ x :: acc.drop n) := by
  have hta : acc.take n ++ acc.drop n = acc := List.take_append_drop n acc
  refine ⟨?_, fun z => ?_, by simp; omega⟩
  · unfold SS at *
    rw [← hta] at h
    rw [List.pairwise_append] at h ⊢
    obtain ⟨p1, p2, p3⟩ := h
    refine ⟨p1, ?_, ?_⟩
    · rw [List.pairwise_cons]
      refine ⟨fun z hz => ?_, p2⟩
      obtain ⟨j, hj⟩ := List.mem_iff_getElem?.1 hz
      rw [List.getElem?_drop] at hj
      exact h2 _ z (by omega) hj
    · intro a ha b hb
      obtain ⟨j, hj⟩ := List.mem_iff_getElem?.1 ha
      have hjn : j < n := by
        have := (List.getElem?_eq_some_iff.1 hj).1
        simp at this
        omega
      rw [List.getElem?_take_of_lt hjn] at hj
      rcases List.mem_cons.1 hb with rfl | hb
      · exact h1 j a hjn hj
      · exact p3 a (List.mem_iff_getElem?.2 ⟨j, by rw [List.getElem?_take_of_lt hjn]; exact hj⟩) b hb
  · have : z ∈ acc ↔ z ∈ acc.take n ∨ z ∈ acc.drop n := by
      rw [← List.mem_append, hta]
    rw [this, List.mem_append, List.mem_cons]
    constructor
    · rintro (h | h | h)
      · exact .inl (.inl h)
      · exact .inr h
      · exact .inl (.inr h)
    · rintro ((h | h) | h)
      · exact .inl h
      · exact .inr (.inr h)
      · exact .inr (.inl h)

theorem ss_get {acc : List S} (h : SS acc) {i j : Nat} {a b : S} (ha : acc[i]? = some a) (hb : acc[j]? = some b) (hij : i < j) : a < b := by
  obtain ⟨hi, rfl⟩ := List.getElem?_eq_some_iff.1 ha
  obtain ⟨hj, rfl⟩ := List.getElem?_eq_some_iff.1 hb
  exact (List.pairwise_iff_getElem.1 h) i j hi hj hij

theorem srt_l1 (xs acc : List S) (i : Nat) (x : S) (hi : xs[i]? = some x) (hA : SS acc) (hn : acc.length ≤ 1000000) (hin : i ≤ 1000000) :
    ∀ (n : Nat), n ≤ acc.length → (∀ j z, n ≤ j → acc[j]? = some z → x < z) →
    ∃ acc', InsS acc x acc' ∧ ∀ R, Ev (fun k => lanternref1_Sorted.l0 k (xs.map U) (acc'.map U) ((i + 1 : Nat) : Int)) R → Ev (fun k => lanternref1_Sorted.l1 k (xs.map U) (acc.map U) (i : Int) (n : Int)) R := by
  have hil : i < xs.length := (List.getElem?_eq_some_iff.1 hi).1
  have hap : (acc ++ [([] : S)]).map U = acc.map U ++ [(⟨#[]⟩ : ByteArray)] := by rw [List.map_append]; rfl
  intro n
  induction n with
  | zero =>
    intro hnl h2
    refine ⟨acc.take 0 ++ x :: acc.drop 0, ss_ins hA (fun j z hj => by omega) h2, fun R hR => ?_⟩
    have h3 := srt_l2 xs acc i 0 x hi (by omega) hn hin acc.length acc.length (acc ++ [[]]) (by omega) (Nat.le_refl _) (by simp) (fun j hj => List.getElem?_append_left hj) (fun j hj => by rw [List.getElem?_eq_none (by simp; omega), List.getElem?_eq_none hj]) R hR
    refine Ev.step (f := fun k => lanternref1_Sorted.j2 k (xs.map U) (acc.map U) (i : Int) 0) (fun k => ?_) (Ev.step (f := fun k => lanternref1_Sorted.j3 k (xs.map U) (acc.map U) (i : Int) 0 false) (fun k => ?_) (Ev.step (fun k => ?_) h3))
    · show lanternref1_Sorted.l1 (k + 1) _ _ _ _ = _
      rw [lanternref1_Sorted.l1]
      rw [if_neg (by simp)]
      rfl
    · show lanternref1_Sorted.j2 (k + 1) _ _ _ _ = _
      rw [lanternref1_Sorted.j2]
      rw [if_neg (by simp)]
    · show lanternref1_Sorted.j3 (k + 1) _ _ _ _ _ = _
      rw [lanternref1_Sorted.j3]
      rw [if_neg (by simp), if_pos (by simp; omega), Option.bind_some, hap]
      congr 1
      rw [List.length_append, List.length_singleton, List.length_map]
      unfold wrap64
      omega
  | succ n ih =>
    intro hnl h2
    obtain ⟨z, hz⟩ : ∃ z, acc[n]? = some z := ⟨_, List.getElem?_eq_getElem (by omega)⟩
    by_cases hgt : x < z
    · obtain ⟨acc', hI, hE⟩ := ih (by omega) (fun j y hj hy => by
        by_cases e : j = n
        · subst e; rw [hz] at hy; cases hy; exact hgt
        · exact h2 j y (by omega) hy)
      refine ⟨acc', hI, fun R hR => Ev.step (fun k => ?_) (hE R hR)⟩
      show lanternref1_Sorted.l1 (k + 1) _ _ _ _ = _
      rw [lanternref1_Sorted.l1]
      rw [show wrap64 (((n + 1 : Nat) : Int) - 1) = (n : Int) by unfold wrap64; omega]
      rw [if_pos (by omega), if_pos (by omega), if_pos (by simp; omega), if_pos (by omega), if_pos (by simp; omega), rds_of hz, rds_of hi, less_U, if_pos (by simpa using hgt)]
    · by_cases heq : z = x
      · subst heq
        refine ⟨acc, ⟨hA, fun y => ⟨.inl, fun h => h.elim id fun e => ?_⟩, by omega⟩, fun R hR => ?_⟩
        · rw [e]; exact List.mem_of_getElem? hz
        · refine Ev.step (f := fun k => lanternref1_Sorted.j2 k (xs.map U) (acc.map U) (i : Int) ((n + 1 : Nat) : Int)) (fun k => ?_) (Ev.step (f := fun k => lanternref1_Sorted.j3 k (xs.map U) (acc.map U) (i : Int) ((n + 1 : Nat) : Int) true) (fun k => ?_) (Ev.step (fun k => ?_) hR))
          · show lanternref1_Sorted.l1 (k + 1) _ _ _ _ = _
            rw [lanternref1_Sorted.l1]
            rw [show wrap64 (((n + 1 : Nat) : Int) - 1) = (n : Int) by unfold wrap64; omega]
            rw [if_pos (by omega), if_pos (by omega), if_pos (by simp; omega), if_pos (by omega), if_pos (by simp; omega), rds_of hz, rds_of hi, less_U, if_neg (by simp)]
          · show lanternref1_Sorted.j2 (k + 1) _ _ _ _ = _
            rw [lanternref1_Sorted.j2]
            rw [show wrap64 (((n + 1 : Nat) : Int) - 1) = (n : Int) by unfold wrap64; omega]
            rw [if_pos (by omega), if_pos (by omega), if_pos (by simp; omega), if_pos (by omega), if_pos (by simp; omega), rds_of hz, rds_of hi]
            simp
          · show lanternref1_Sorted.j3 (k + 1) _ _ _ _ _ = _
            rw [lanternref1_Sorted.j3]
            rw [if_pos rfl]
            rw [show wrap64 ((i : Int) + 1) = ((i + 1 : Nat) : Int) by unfold wrap64; omega]
      · have hlt : z < x := Std.lt_of_le_of_ne (List.not_lt.1 hgt) heq
        refine ⟨acc.take (n + 1) ++ x :: acc.drop (n + 1), ss_ins hA (fun j y hj hy => ?_) h2, fun R hR => ?_⟩
        · by_cases e : j = n
          · subst e; rw [hz] at hy; cases hy; exact hlt
          · exact Std.lt_trans (ss_get hA hy hz (by omega)) hlt
        · have h3 := srt_l2 xs acc i (n + 1) x hi hnl hn hin (acc.length - (n + 1)) acc.length (acc ++ [[]]) (by omega) (Nat.le_refl _) (by simp) (fun j hj => List.getElem?_append_left hj) (fun j hj => by rw [List.getElem?_eq_none (by simp; omega), List.getElem?_eq_none hj]) R hR
          refine Ev.step (f := fun k => lanternref1_Sorted.j2 k (xs.map U) (acc.map U) (i : Int) ((n + 1 : Nat) : Int)) (fun k => ?_) (Ev.step (f := fun k => lanternref1_Sorted.j3 k (xs.map U) (acc.map U) (i : Int) ((n + 1 : Nat) : Int) false) (fun k => ?_) (Ev.step (fun k => ?_) h3))
          · show lanternref1_Sorted.l1 (k + 1) _ _ _ _ = _
            rw [lanternref1_Sorted.l1]
            rw [show wrap64 (((n + 1 : Nat) : Int) - 1) = (n : Int) by unfold wrap64; omega]
            rw [if_pos (by omega), if_pos (by omega), if_pos (by simp; omega), if_pos (by omega), if_pos (by simp; omega), rds_of hz, rds_of hi, less_U, if_neg (by simpa using hgt)]
          · show lanternref1_Sorted.j2 (k + 1) _ _ _ _ = _
            rw [lanternref1_Sorted.j2]
            rw [show wrap64 (((n + 1 : Nat) : Int) - 1) = (n : Int) by unfold wrap64; omega]
            rw [if_pos (by omega), if_pos (by omega), if_pos (by simp; omega), if_pos (by omega), if_pos (by simp; omega), rds_of hz, rds_of hi, toList_U, toList_U]
            rw [show (z == x) = false by simpa using heq]
          · show lanternref1_Sorted.j3 (k + 1) _ _ _ _ _ = _
            rw [lanternref1_Sorted.j3]
            rw [if_neg (by simp), if_pos (by simp; omega), Option.bind_some, hap]
            congr 1
            rw [List.length_append, List.length_singleton, List.length_map]
            unfold wrap64
            omega

theorem srt_l0 (xs : List S) (hx : xs.length ≤ 1000000) : ∀ (m i : Nat) (acc : List S), xs.length - i = m → i ≤ xs.length → SS acc → acc.length ≤ i →
    ∃ r, SS r ∧ (∀ z, z ∈ r ↔ z ∈ acc ∨ z ∈ xs.drop i) ∧ r.length ≤ xs.length ∧ Ev (fun k => lanternref1_Sorted.l0 k (xs.map U) (acc.map U) (i : Int)) (r.map U) := by
  intro m
  induction m with
  | zero =>
    intro i acc hm hi hA hl
    have : i = xs.length := by omega
    subst this
    refine ⟨acc, hA, fun z => by simp, hl, Ev.step (f := fun _ => some (acc.map U)) (fun k => ?_) (Ev.now _)⟩
    show lanternref1_Sorted.l0 (k + 1) _ _ _ = _
    rw [lanternref1_Sorted.l0]
    rw [if_neg (by simp)]
  | succ m ih =>
    intro i acc hm hi hA hl
    have hlt : i < xs.length := by omega
    obtain ⟨acc', hI, hE⟩ := srt_l1 xs acc i xs[i] (List.getElem?_eq_getElem hlt) hA (by omega) (by omega) acc.length (Nat.le_refl _) (fun j z hj hz => by rw [List.getElem?_eq_none hj] at hz; cases hz)
    obtain ⟨r, r1, r2, r3, r4⟩ := ih (i + 1) acc' (by omega) (by omega) hI.1 (by have := hI.2.2; omega)
    refine ⟨r, r1, fun z => ?_, r3, Ev.step (fun k => ?_) (hE (r.map U) r4)⟩
    · rw [r2, hI.2.1, List.drop_eq_getElem_cons hlt, List.mem_cons, or_assoc]
    · show lanternref1_Sorted.l0 (k + 1) _ _ _ = _
      rw [lanternref1_Sorted.l0]
      rw [if_pos (by simp; omega), List.length_map]

/-- Sorted: the members, ascending, each once. -/
theorem srt_f (xs : List S) (hx : xs.length ≤ 1000000) : ∃ r, IsSrt xs r ∧ r.length ≤ xs.length ∧ Ev (fun k => PQueryCalls.lanternref1_Sorted.f k (xs.map U)) (r.map U) := by
  obtain ⟨r, r1, r2, r3, r4⟩ := srt_l0 xs hx xs.length 0 [] (by omega) (by omega) List.Pairwise.nil (by simp)
  exact ⟨r, ⟨r1, fun z => by rw [r2]; simp⟩, r3, Ev.congr (fun _ => rfl) r4⟩

/-- Where edges of a node lead. -/
def outsOf (es : List (S × Int × S)) (s : S) : List S := (es.filter fun e => decide (e.1 = s)).map (·.2.2)

/-- An edge, as the texts printed for QueryCalls have it. -/
def toC50 (e : S × Int × S) : PQueryCalls.S50 := ⟨U e.1, e.2.1, U e.2.2⟩

theorem rdC (l : List (S × Int × S)) {i : Nat} {e : S × Int × S} (h : l[i]? = some e) : PQueryCalls.rd_T50 (l.map toC50) (i : Int) = toC50 e := by
  simp [PQueryCalls.rd_T50, List.getD_eq_getElem?_getD, h]

theorem next_l0 (es : List (S × Int × S)) (s : S) (hn : es.length ≤ 1000000) : ∀ (m i : Nat), es.length - i = m → i ≤ es.length →
    ∃ r, IsSrt (outsOf es s) r ∧ r.length ≤ es.length ∧ Ev (fun k => PQueryCalls.lanternref22_next.l0 k (es.map toC50) (U s) ((outsOf (es.take i) s).map U) (i : Int)) (r.map U) := by
  intro m
  induction m with
  | zero =>
    intro i hm hi
    have : i = es.length := by omega
    subst this
    have hl : (outsOf es s).length ≤ es.length := by unfold outsOf; rw [List.length_map]; exact List.length_filter_le _ _
    obtain ⟨r, r1, r2, r3⟩ := srt_f (outsOf es s) (by omega)
    refine ⟨r, r1, by omega, Ev.step (f := fun k => (PQueryCalls.lanternref1_Sorted.f k ((outsOf es s).map U)).bind fun t => some t) (fun k => ?_) (Ev.bind (f := fun _ t => some t) r3 (Ev.now _))⟩
    show PQueryCalls.lanternref22_next.l0 (k + 1) _ _ _ _ = _
    rw [PQueryCalls.lanternref22_next.l0]
    rw [if_neg (by simp), List.take_length]
  | succ m ih =>
    intro i hm hi
    have hlt : i < es.length := by omega
    obtain ⟨r, r1, r2, r3⟩ := ih (i + 1) (by omega) (by omega)
    refine ⟨r, r1, r2, Ev.step (fun k => ?_) r3⟩
    have hs : outsOf (es.take (i + 1)) s = outsOf (es.take i) s ++ (if es[i].1 = s then [es[i].2.2] else []) := by
      unfold outsOf
      rw [List.take_add_one, List.getElem?_eq_getElem hlt, Option.toList_some, List.filter_append, List.map_append]
      congr 1
      rw [List.filter_cons, List.filter_nil]
      by_cases h : es[i].1 = s
      · simp [h]
      · simp [h]
    have hl : (outsOf (es.take i) s).length ≤ es.length := by unfold outsOf; rw [List.length_map]; exact Nat.le_trans (List.length_filter_le _ _) (by simp; omega)
    show PQueryCalls.lanternref22_next.l0 (k + 1) _ _ _ _ = _
    rw [PQueryCalls.lanternref22_next.l0]
    rw [if_pos (by simp; omega), if_pos (by omega), rdC es (List.getElem?_eq_getElem hlt)]
    rw [show (toC50 es[i]).f0 = U es[i].1 from rfl, show (toC50 es[i]).f2 = U es[i].2.2 from rfl, toList_U, toList_U, hs]
    by_cases h : es[i].1 = s
    · rw [if_pos h, if_pos h, if_pos (by simp; omega), show wrap64 ((i : Int) + 1) = ((i + 1 : Nat) : Int) by unfold wrap64; omega, List.map_append]
      rfl
    · rw [if_neg h, if_neg h, List.append_nil, show wrap64 ((i : Int) + 1) = ((i + 1 : Nat) : Int) by unfold wrap64; omega]

theorem next_f (es : List (S × Int × S)) (s : S) (hn : es.length ≤ 1000000) : ∃ r, IsSrt (outsOf es s) r ∧ r.length ≤ es.length ∧ Ev (fun k => PQueryCalls.lanternref22_next.f k (es.map toC50) (U s)) (r.map U) := by
  obtain ⟨r, r1, r2, r3⟩ := next_l0 es s hn es.length 0 (by omega) (by omega)
  exact ⟨r, r1, r2, Ev.congr (fun _ => rfl) r3⟩

theorem mem_outsOf {es : List (S × Int × S)} {s t : S} : t ∈ outsOf es s ↔ (s, t) ∈ ends es := by
  unfold outsOf ends
  rw [List.mem_map, List.mem_map]
  constructor
  · rintro ⟨e, he, rfl⟩
    rw [List.mem_filter, decide_eq_true_eq] at he
    exact ⟨e, he.1, by rw [he.2]⟩
  · rintro ⟨e, he, h⟩
    injection h with h1 h2
    exact ⟨e, List.mem_filter.2 ⟨he, by simpa using h1⟩, h2⟩
end Go.Proofs.Ytljfknneijmfoaa
