import Derived.Test.YtljfknneijmfoaaQs
import Derived.Test.YtljfknneijmfoaaFr
namespace Go.Proofs.Ytljfknneijmfoaa
open Go.RowKit Go.Maps Go.WideMaps
open Go.Proofs.YtljfknneijmfoaaW.PrintWords
open PQueryAsks (lanternref17_Rising.l0 lanternref17_Rising.l1 lanternref17_Rising.l2 lanternref17_Rising.j2 lanternref17_Rising.j3)

theorem rd_of {l : List Int} {i : Nat} {z : Int} (h : l[i]? = some z) : Go.Proofs.YtljfknneijmfoaaW.PrintWords.rd l (i : Int) = z := by
  simp [Go.Proofs.YtljfknneijmfoaaW.PrintWords.rd, List.getD_eq_getElem?_getD, h]

theorem rise_l2 (xs acc : List Int) (i at' : Nat) (x : Int) (hi : xs[i]? = some x) (hat : at' ≤ acc.length) (hn : acc.length ≤ 1000000) (hin : i ≤ 1000000) :
    ∀ (m p : Nat) (y : List Int), p = at' + m → p ≤ acc.length → y.length = acc.length + 1 → (∀ j, j < p → y[j]? = acc[j]?) → (∀ j, p ≤ j → y[j + 1]? = acc[j]?) →
    ∀ R, Ev (fun k => lanternref17_Rising.l0 k xs (acc.take at' ++ x :: acc.drop at') ((i + 1 : Nat) : Int)) R → Ev (fun k => lanternref17_Rising.l2 k xs y (i : Int) (at' : Int) (p : Int)) R := by
  intro m
  induction m with
  | zero =>
    intro p y hp hpn hy h1 h2 R hR
    have hil : i < xs.length := (List.getElem?_eq_some_iff.1 hi).1
    have hpa : p = at' := by omega
    subst hpa
    have he : y.set p x = acc.take p ++ x :: acc.drop p := by
      apply List.ext_getElem?
      intro j
      rw [List.getElem?_set]
      by_cases hj : p = j
      · subst hj
        rw [if_pos rfl, if_pos (by omega), List.getElem?_append_right (by rw [List.length_take]; exact Nat.min_le_left _ _)]
        simp [Nat.min_eq_left hpn]
      · rw [if_neg hj]
        by_cases hlt : j < p
        · rw [h1 j hlt, List.getElem?_append_left (by simp; omega), List.getElem?_take_of_lt hlt]
        · obtain ⟨q, rfl⟩ : ∃ q, j = q + 1 := ⟨j - 1, by omega⟩
          rw [h2 q (by omega), List.getElem?_append_right (by simp; omega)]
          rw [List.length_take, Nat.min_eq_left hpn, show q + 1 - p = (q - p) + 1 by omega, List.getElem?_cons_succ, List.getElem?_drop]
          congr 1
          omega
    refine Ev.step (fun k => ?_) hR
    show lanternref17_Rising.l2 (k + 1) _ _ _ _ _ = _
    rw [lanternref17_Rising.l2]
    rw [if_neg (by omega), if_pos (by omega), if_pos (by omega), if_pos (by omega), if_pos (by omega), rd_of hi, Int.toNat_natCast, he]
    rw [show wrap64 ((i : Int) + 1) = ((i + 1 : Nat) : Int) by unfold wrap64; omega]
  | succ m ih =>
    intro p y hp hpn hy h1 h2 R hR
    obtain ⟨q, rfl⟩ : ∃ q, p = q + 1 := ⟨p - 1, by omega⟩
    obtain ⟨z, hz⟩ : ∃ z, acc[q]? = some z := ⟨_, List.getElem?_eq_getElem (by omega)⟩
    have hyq : y[q]? = some z := by rw [h1 q (by omega), hz]
    refine Ev.step (fun k => ?_) (ih q (y.set (q + 1) z) (by omega) (by omega) (by simpa using hy) ?_ ?_ R hR)
    · show lanternref17_Rising.l2 (k + 1) _ _ _ _ _ = _
      rw [lanternref17_Rising.l2]
      have hw : wrap64 (((q + 1 : Nat) : Int) - 1) = (q : Int) := by unfold wrap64; omega
      rw [hw]
      clear hw
      rw [if_pos (by omega), if_pos (by omega), if_pos (by omega), if_pos (by omega), if_pos (by omega), rd_of hyq, Int.toNat_natCast]
    · intro j hj
      rw [List.getElem?_set_ne (by omega), h1 j (by omega)]
    · intro j hj
      by_cases hjq : j = q
      · subst hjq
        rw [List.getElem?_set_self (by omega), hz]
      · rw [List.getElem?_set_ne (by omega), h2 j (by omega)]

/-- One more number among those that ascend. -/
def Ins (acc : List Int) (x : Int) (acc' : List Int) : Prop := Asc acc' ∧ (∀ z, z ∈ acc' ↔ z ∈ acc ∨ z = x) ∧ acc'.length ≤ acc.length + 1

theorem asc_ins {acc : List Int} {x : Int} {n : Nat} (h : Asc acc) (h1 : ∀ j z, j < n → acc[j]? = some z → z < x) (h2 : ∀ j z, n ≤ j → acc[j]? = some z → x < z) : Ins acc x (acc.take n ++ x :: acc.drop n) := by
  have hta : acc.take n ++ acc.drop n = acc := List.take_append_drop n acc
  refine ⟨?_, fun z => ?_, by simp; omega⟩
  · unfold Asc at *
    rw [← hta] at h
    rw [List.pairwise_append] at h ⊢
    obtain ⟨p1, p2, p3⟩ := h
    refine ⟨p1, ?_, ?_⟩
    · rw [List.pairwise_cons]
      refine ⟨fun z hz => ?_, p2⟩
      obtain ⟨j, hj⟩ := List.mem_iff_getElem?.1 hz
      rw [List.getElem?_drop] at hj
      exact h2 _ z (by omega) hj
    · intro a ha b hb
      obtain ⟨j, hj⟩ := List.mem_iff_getElem?.1 ha
      have hjn : j < n := by
        have := (List.getElem?_eq_some_iff.1 hj).1
        simp at this
        omega
      rw [List.getElem?_take_of_lt hjn] at hj
      rcases List.mem_cons.1 hb with rfl | hb
      · exact h1 j a hjn hj
      · exact p3 a (List.mem_iff_getElem?.2 ⟨j, by rw [List.getElem?_take_of_lt hjn]; exact hj⟩) b hb
  · have : z ∈ acc ↔ z ∈ acc.take n ∨ z ∈ acc.drop n := by
      rw [← List.mem_append, hta]
    rw [this, List.mem_append, List.mem_cons]
    constructor
    · rintro (h | h | h)
      · exact .inl (.inl h)
      · exact .inr h
      · exact .inl (.inr h)
    · rintro ((h | h) | h)
      · exact .inl h
      · exact .inr (.inr h)
      · exact .inr (.inl h)

theorem asc_get {acc : List Int} (h : Asc acc) {i j : Nat} {a b : Int} (ha : acc[i]? = some a) (hb : acc[j]? = some b) (hij : i < j) : a < b := by
  obtain ⟨hi, rfl⟩ := List.getElem?_eq_some_iff.1 ha
  obtain ⟨hj, rfl⟩ := List.getElem?_eq_some_iff.1 hb
  exact (List.pairwise_iff_getElem.1 h) i j hi hj hij

theorem rise_l1 (xs acc : List Int) (i : Nat) (x : Int) (hi : xs[i]? = some x) (hA : Asc acc) (hn : acc.length ≤ 1000000) (hin : i ≤ 1000000) :
    ∀ (n : Nat), n ≤ acc.length → (∀ j z, n ≤ j → acc[j]? = some z → x < z) →
    ∃ acc', Ins acc x acc' ∧ ∀ R, Ev (fun k => lanternref17_Rising.l0 k xs acc' ((i + 1 : Nat) : Int)) R → Ev (fun k => lanternref17_Rising.l1 k xs acc (i : Int) (n : Int)) R := by
  have hil : i < xs.length := (List.getElem?_eq_some_iff.1 hi).1
  intro n
  induction n with
  | zero =>
    intro hnl h2
    refine ⟨acc.take 0 ++ x :: acc.drop 0, asc_ins hA (fun j z hj => by omega) h2, fun R hR => ?_⟩
    have h3 := rise_l2 xs acc i 0 x hi (by omega) hn hin acc.length acc.length (acc ++ [0]) (by omega) (Nat.le_refl _) (by simp) (fun j hj => List.getElem?_append_left hj) (fun j hj => by rw [List.getElem?_eq_none (by simp; omega), List.getElem?_eq_none hj]) R hR
    refine Ev.step (f := fun k => lanternref17_Rising.j2 k xs acc (i : Int) 0) (fun k => ?_) (Ev.step (f := fun k => lanternref17_Rising.j3 k xs acc (i : Int) 0 false) (fun k => ?_) (Ev.step (fun k => ?_) h3))
    · show lanternref17_Rising.l1 (k + 1) _ _ _ _ = _
      rw [lanternref17_Rising.l1]
      rw [if_neg (by simp)]
      rfl
    · show lanternref17_Rising.j2 (k + 1) _ _ _ _ = _
      rw [lanternref17_Rising.j2]
      rw [if_neg (by simp)]
    · show lanternref17_Rising.j3 (k + 1) _ _ _ _ _ = _
      rw [lanternref17_Rising.j3]
      rw [if_neg (by simp), if_pos (by omega), Option.bind_some]
      congr 1
      rw [List.length_append, List.length_singleton]
      unfold wrap64
      omega
  | succ n ih =>
    intro hnl h2
    obtain ⟨z, hz⟩ : ∃ z, acc[n]? = some z := ⟨_, List.getElem?_eq_getElem (by omega)⟩
    by_cases hgt : x < z
    · obtain ⟨acc', hI, hE⟩ := ih (by omega) (fun j y hj hy => by
        by_cases e : j = n
        · subst e; rw [hz] at hy; cases hy; exact hgt
        · exact h2 j y (by omega) hy)
      refine ⟨acc', hI, fun R hR => Ev.step (fun k => ?_) (hE R hR)⟩
      show lanternref17_Rising.l1 (k + 1) _ _ _ _ = _
      rw [lanternref17_Rising.l1]
      rw [show wrap64 (((n + 1 : Nat) : Int) - 1) = (n : Int) by unfold wrap64; omega]
      rw [if_pos (by omega), if_pos (by omega), if_pos (by omega), if_pos (by omega), if_pos (by omega), rd_of hz, rd_of hi, if_pos (by omega)]
    · by_cases heq : z = x
      · subst heq
        refine ⟨acc, ⟨hA, fun y => ⟨.inl, fun h => h.elim id fun e => ?_⟩, by omega⟩, fun R hR => ?_⟩
        · rw [e]; exact List.mem_of_getElem? hz
        · refine Ev.step (f := fun k => lanternref17_Rising.j2 k xs acc (i : Int) ((n + 1 : Nat) : Int)) (fun k => ?_) (Ev.step (f := fun k => lanternref17_Rising.j3 k xs acc (i : Int) ((n + 1 : Nat) : Int) true) (fun k => ?_) (Ev.step (fun k => ?_) hR))
          · show lanternref17_Rising.l1 (k + 1) _ _ _ _ = _
            rw [lanternref17_Rising.l1]
            rw [show wrap64 (((n + 1 : Nat) : Int) - 1) = (n : Int) by unfold wrap64; omega]
            rw [if_pos (by omega), if_pos (by omega), if_pos (by omega), if_pos (by omega), if_pos (by omega), rd_of hz, rd_of hi, if_neg (by omega)]
          · show lanternref17_Rising.j2 (k + 1) _ _ _ _ = _
            rw [lanternref17_Rising.j2]
            rw [show wrap64 (((n + 1 : Nat) : Int) - 1) = (n : Int) by unfold wrap64; omega]
            rw [if_pos (by omega), if_pos (by omega), if_pos (by omega), if_pos (by omega), if_pos (by omega), rd_of hz, rd_of hi]
            simp
          · show lanternref17_Rising.j3 (k + 1) _ _ _ _ _ = _
            rw [lanternref17_Rising.j3]
            rw [if_pos rfl]
            rw [show wrap64 ((i : Int) + 1) = ((i + 1 : Nat) : Int) by unfold wrap64; omega]
      · have hlt : z < x := by omega
        refine ⟨acc.take (n + 1) ++ x :: acc.drop (n + 1), asc_ins hA (fun j y hj hy => ?_) h2, fun R hR => ?_⟩
        · by_cases e : j = n
          · subst e; rw [hz] at hy; cases hy; exact hlt
          · have := asc_get hA hy hz (by omega)
            omega
        · have h3 := rise_l2 xs acc i (n + 1) x hi hnl hn hin (acc.length - (n + 1)) acc.length (acc ++ [0]) (by omega) (Nat.le_refl _) (by simp) (fun j hj => List.getElem?_append_left hj) (fun j hj => by rw [List.getElem?_eq_none (by simp; omega), List.getElem?_eq_none hj]) R hR
          refine Ev.step (f := fun k => lanternref17_Rising.j2 k xs acc (i : Int) ((n + 1 : Nat) : Int)) (fun k => ?_) (Ev.step (f := fun k => lanternref17_Rising.j3 k xs acc (i : Int) ((n + 1 : Nat) : Int) false) (fun k => ?_) (Ev.step (fun k => ?_) h3))
          · show lanternref17_Rising.l1 (k + 1) _ _ _ _ = _
            rw [lanternref17_Rising.l1]
            rw [show wrap64 (((n + 1 : Nat) : Int) - 1) = (n : Int) by unfold wrap64; omega]
            rw [if_pos (by omega), if_pos (by omega), if_pos (by omega), if_pos (by omega), if_pos (by omega), rd_of hz, rd_of hi, if_neg (by omega)]
          · show lanternref17_Rising.j2 (k + 1) _ _ _ _ = _
            rw [lanternref17_Rising.j2]
            rw [show wrap64 (((n + 1 : Nat) : Int) - 1) = (n : Int) by unfold wrap64; omega]
            rw [if_pos (by omega), if_pos (by omega), if_pos (by omega), if_pos (by omega), if_pos (by omega), rd_of hz, rd_of hi]
            rw [show (z == x) = false by simpa using heq]
          · show lanternref17_Rising.j3 (k + 1) _ _ _ _ _ = _
            rw [lanternref17_Rising.j3]
            rw [if_neg (by simp), if_pos (by omega), Option.bind_some]
            congr 1
            rw [List.length_append, List.length_singleton]
            unfold wrap64
            omega

theorem rise_l0 (xs : List Int) (hx : xs.length ≤ 1000000) : ∀ (m i : Nat) (acc : List Int), xs.length - i = m → i ≤ xs.length → Asc acc → acc.length ≤ i →
    ∃ r, Asc r ∧ (∀ z, z ∈ r ↔ z ∈ acc ∨ z ∈ xs.drop i) ∧ r.length ≤ xs.length ∧ Ev (fun k => lanternref17_Rising.l0 k xs acc (i : Int)) r := by
  intro m
  induction m with
  | zero =>
    intro i acc hm hi hA hl
    have : i = xs.length := by omega
    subst this
    refine ⟨acc, hA, fun z => by simp, hl, Ev.step (f := fun _ => some acc) (fun k => ?_) (Ev.now acc)⟩
    show lanternref17_Rising.l0 (k + 1) _ _ _ = _
    rw [lanternref17_Rising.l0]
    rw [if_neg (by omega)]
  | succ m ih =>
    intro i acc hm hi hA hl
    have hlt : i < xs.length := by omega
    obtain ⟨acc', hI, hE⟩ := rise_l1 xs acc i xs[i] (List.getElem?_eq_getElem hlt) hA (by omega) (by omega) acc.length (Nat.le_refl _) (fun j z hj hz => by rw [List.getElem?_eq_none hj] at hz; cases hz)
    obtain ⟨r, r1, r2, r3, r4⟩ := ih (i + 1) acc' (by omega) (by omega) hI.1 (by have := hI.2.2; omega)
    refine ⟨r, r1, fun z => ?_, r3, Ev.step (fun k => ?_) (hE r r4)⟩
    · rw [r2, hI.2.1, List.drop_eq_getElem_cons hlt, List.mem_cons, or_assoc]
    · show lanternref17_Rising.l0 (k + 1) _ _ _ = _
      rw [lanternref17_Rising.l0]
      rw [if_pos (by omega)]

/-- Rising: the members, ascending, each once. -/
theorem rise_f (xs : List Int) (hx : xs.length ≤ 1000000) : ∃ r, Asc r ∧ (∀ z, z ∈ r ↔ z ∈ xs) ∧ r.length ≤ xs.length ∧ Ev (fun k => PQueryAsks.lanternref17_Rising.f k xs) r := by
  obtain ⟨r, r1, r2, r3, r4⟩ := rise_l0 xs hx xs.length 0 [] (by omega) (by omega) List.Pairwise.nil (by simp)
  refine ⟨r, r1, fun z => by rw [r2]; simp, r3, Ev.congr (fun k => ?_) r4⟩
  rfl
end Go.Proofs.Ytljfknneijmfoaa
