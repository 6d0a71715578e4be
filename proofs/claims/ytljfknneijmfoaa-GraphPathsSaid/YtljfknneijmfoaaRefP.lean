import Derived.Test.YtljfknneijmfoaaSrt
namespace Go.Proofs.Ytljfknneijmfoaa
open Go.RowKit Go.Maps Go.WideMaps
open Go.Proofs.YtljfknneijmfoaaW.PrintWords

theorem inC_l0 (l : List S) (x : S) (hl : l.length ≤ 9223372036854775807) : ∀ (m i : Nat), l.length - i = m → i ≤ l.length →
    ∃ r, Ev (fun k => PQueryCalls.lanternref1_in.l0 k (l.map U) (U x) (i : Int)) r ∧ (0 ≤ r ↔ x ∈ l.drop i) := by
  intro m
  induction m with
  | zero =>
    intro i hm hi
    have : i = l.length := by omega
    subst this
    refine ⟨-1, Ev.step (f := fun _ => some (-1)) (fun k => ?_) (Ev.now _), by simp⟩
    show PQueryCalls.lanternref1_in.l0 (k + 1) _ _ _ = _
    rw [PQueryCalls.lanternref1_in.l0]
    rw [if_neg (by simp)]
  | succ m ih =>
    intro i hm hi
    have hlt : i < l.length := by omega
    rw [List.drop_eq_getElem_cons hlt]
    by_cases c : l[i] = x
    · refine ⟨(i : Int), Ev.step (f := fun _ => some (i : Int)) (fun k => ?_) (Ev.now _), by simp [c]⟩
      show PQueryCalls.lanternref1_in.l0 (k + 1) _ _ _ = _
      rw [PQueryCalls.lanternref1_in.l0]
      rw [if_pos (by simp; omega), if_pos (by omega), rds_of (List.getElem?_eq_getElem hlt), toList_U, toList_U, if_pos c]
    · obtain ⟨r, hr, h⟩ := ih (i + 1) (by omega) (by omega)
      refine ⟨r, Ev.step (fun k => ?_) hr, h.trans ?_⟩
      · show PQueryCalls.lanternref1_in.l0 (k + 1) _ _ _ = _
        rw [PQueryCalls.lanternref1_in.l0]
        rw [if_pos (by simp; omega), if_pos (by omega), rds_of (List.getElem?_eq_getElem hlt), toList_U, toList_U, if_neg c, show wrap64 ((i : Int) + 1) = ((i + 1 : Nat) : Int) by unfold wrap64; omega]
      · rw [List.mem_cons]
        exact ⟨fun h => .inr h, fun h => h.resolve_left (fun e => c e.symm)⟩

theorem hasC (l : List S) (x : S) (hl : l.length ≤ 9223372036854775807) : Ev (fun k => PQueryCalls.lanternref1_Has.f k (l.map U) (U x)) (decide (x ∈ l)) := by
  obtain ⟨r, hr, hx⟩ := inC_l0 l x hl l.length 0 (by omega) (by omega)
  rw [List.drop_zero] at hx
  have hd : decide (r ≥ 0) = decide (x ∈ l) := by rw [Bool.eq_iff_iff, decide_eq_true_eq, decide_eq_true_eq, ← hx]
  rw [← hd]
  exact Ev.congr (fun _ => rfl) (Ev.bind (f := fun _ t => some (decide (t ≥ 0))) hr (Ev.now _))

section
variable (es : List (S × Int × S)) (tt : S)

/-- So far from the end. -/
def At (x : S) (d : Nat) : Prop := Dist (rev (ends es)) [tt] x d

/-- The nodes by levels, and all that were met. -/
structure Lv (far : List (List S)) (all : List S) (from' : S) : Prop where
  ne : far ≠ []
  lev : ∀ (j : Nat) (L : List S), far[j]? = some L → ∀ x, x ∈ L ↔ At es tt x j
  mem : ∀ x, x ∈ all ↔ ∃ j, j < far.length ∧ At es tt x j
  new : ∀ j, j + 1 < far.length → ¬ At es tt from' j
  short : ∀ L ∈ far, L.length ≤ es.length + 1

def moreOf (all : List S) (l : List (S × Int × S)) : List S := (l.filter fun e => decide (e.2.2 ∈ all) && !decide (e.1 ∈ all)).map (·.1)

variable {es tt}

theorem walk_at {x : S} {n : Nat} (h : Walk (rev (ends es)) n tt x) : ∃ d, d ≤ n ∧ At es tt x d := by
  obtain ⟨d, hd⟩ := conn_dist (src := [tt]) (List.mem_singleton.2 rfl) ⟨n, h⟩
  exact ⟨d, hd.2 n tt (List.mem_singleton.2 rfl) h, hd⟩

theorem at_walk {x : S} {d : Nat} (h : At es tt x d) : Walk (rev (ends es)) d tt x := by
  obtain ⟨⟨s, hs, hw⟩, _⟩ := h
  rw [List.mem_singleton] at hs
  subst hs
  exact hw

theorem mem_moreOf {far : List (List S)} {all : List S} {f : S} (h : Lv es tt far all f) (x : S) : x ∈ moreOf all es ↔ At es tt x far.length := by
  unfold moreOf
  rw [List.mem_map]
  constructor
  · rintro ⟨e, he, rfl⟩
    rw [List.mem_filter, Bool.and_eq_true, decide_eq_true_eq, Bool.not_eq_true', decide_eq_false_iff_not] at he
    obtain ⟨hm, ht, hf⟩ := he
    obtain ⟨j, hj, ha⟩ := (h.mem _).1 ht
    have hE : (e.1, e.2.2) ∈ ends es := List.mem_map.2 ⟨e, hm, rfl⟩
    obtain ⟨d, hd, had⟩ := walk_at ((at_walk ha).snoc (mem_rev.2 hE))
    have : ¬ d < far.length := fun c => hf ((h.mem _).2 ⟨d, c, had⟩)
    have : d = far.length := by omega
    rw [← this]
    exact had
  · intro ha
    obtain ⟨n, hn⟩ : ∃ n, far.length = n + 1 := ⟨far.length - 1, by have := List.length_pos_iff.2 h.ne; omega⟩
    rw [hn] at ha
    obtain ⟨t, ht, hd⟩ := dist_next ha
    obtain ⟨e, he, hee⟩ := List.mem_map.1 ht
    injection hee with h1 h2
    subst h1 h2
    refine ⟨e, ?_, rfl⟩
    rw [List.mem_filter, Bool.and_eq_true, decide_eq_true_eq, Bool.not_eq_true', decide_eq_false_iff_not]
    refine ⟨he, (h.mem _).2 ⟨n, by omega, hd⟩, fun hc => ?_⟩
    obtain ⟨j, hj, hja⟩ := (h.mem _).1 hc
    have := Dist.uniq hja ha
    omega

theorem at_down {x : S} {d n : Nat} (h : At es tt x d) (hn : n ≤ d) : ∃ y, At es tt y n := by
  induction d generalizing x with
  | zero => exact ⟨x, by have : n = 0 := by omega
                         rw [this]; exact h⟩
  | succ d ih =>
    by_cases hnd : n = d + 1
    · exact ⟨x, by rw [hnd]; exact h⟩
    · obtain ⟨t, _, ht⟩ := dist_next h
      exact ih ht (by omega)

theorem at_zero {x : S} (h : At es tt x 0) : x = tt := by
  have := at_walk h
  cases this
  rfl
end

/-- What ref22.Path answers. -/
def Res (es : List (S × Int × S)) (f tt : S) (r : List S) (c : Int) : Prop :=
  (c = 0 ∧ ∃ d, Geo (ends es) tt d r ∧ r.head? = some f) ∨ (c = 11 ∧ r = [] ∧ ∀ d, ¬ At es tt f d)

theorem rdL {far : List (List S)} {j : Nat} {L : List S} (h : far[j]? = some L) : PQueryCalls.rd_L6 (far.map (·.map U)) (j : Int) = L.map U := by
  simp [PQueryCalls.rd_L6, List.getD_eq_getElem?_getD, h]

theorem path_l2 (es : List (S × Int × S)) (tt f : S) (far : List (List S)) (all : List S) (h : Lv es tt far all f) (hn : es.length ≤ 1000000) (hfar : far.length ≤ 1000001) : ∀ (j : Nat) (a : S) (pre : List S), j < far.length → At es tt a j → pre.length + j ≤ 2000000 →
    ∃ p, Geo (ends es) tt j (a :: p) ∧ Ev (fun k => PQueryCalls.lanternref22_Path.l2 k (es.map toC50) (far.map (·.map U)) ((pre ++ [a]).map U) ((j : Int) - 1)) ((pre ++ a :: p).map U, 0) := by
  intro j
  induction j with
  | zero =>
    intro a pre hj ha hpre
    have := at_zero ha
    subst this
    refine ⟨[], .nil, Ev.step (f := fun _ => some _) (fun k => ?_) (Ev.now _)⟩
    show PQueryCalls.lanternref22_Path.l2 (k + 1) _ _ _ _ = _
    rw [PQueryCalls.lanternref22_Path.l2]
    rw [if_neg (by omega)]
  | succ j ih =>
    intro a pre hj ha hpre
    obtain ⟨n, hsn, hnl, hne⟩ := next_f es a hn
    obtain ⟨L, hL⟩ : ∃ L, far[j]? = some L := ⟨_, List.getElem?_eq_getElem (by omega)⟩
    have hLm := h.lev j L hL
    have hLl := h.short L (List.mem_of_getElem? hL)
    have hout : ∀ t, t ∈ n ↔ (a, t) ∈ ends es := fun t => (hsn.2 t).trans mem_outsOf
    have l3 : ∀ (m i : Nat), n.length - i = m → i ≤ n.length → (∀ q t, q < i → n[q]? = some t → ¬ At es tt t j) →
        ∃ p, Geo (ends es) tt (j + 1) (a :: p) ∧ Ev (fun k => PQueryCalls.lanternref22_Path.l3 k (es.map toC50) (far.map (·.map U)) ((pre ++ [a]).map U) (j : Int) (n.map U) (i : Int)) ((pre ++ a :: p).map U, 0) := by
      intro m
      induction m with
      | zero =>
        intro i hm hi hno
        obtain ⟨t, ht, hd⟩ := dist_next ha
        obtain ⟨q, hq⟩ := List.mem_iff_getElem?.1 ((hout t).2 ht)
        have := (List.getElem?_eq_some_iff.1 hq).1
        exact absurd hd (hno q t (by omega) hq)
      | succ m ihm =>
        intro i hm hi hno
        have hlt : i < n.length := by omega
        have hni : n[i]? = some n[i] := List.getElem?_eq_getElem hlt
        have hH := hasC L n[i] (by omega)
        by_cases hin : n[i] ∈ L
        · rw [decide_eq_true hin] at hH
          have hat := (hLm _).1 hin
          have hE := (hout _).1 (List.getElem_mem hlt)
          obtain ⟨p, hG, hEv⟩ := ih n[i] (pre ++ [a]) (by omega) hat (by simp; omega)
          refine ⟨n[i] :: p, .cons ha hE hat (fun u hu hud => ?_) hG, ?_⟩
          · obtain ⟨q, hq⟩ := List.mem_iff_getElem?.1 ((hout u).2 hu)
            by_cases hqi : q < i
            · exact absurd hud (hno q u hqi hq)
            · by_cases hqe : q = i
              · subst hqe
                rw [hni] at hq
                cases hq
                exact Std.le_refl _
              · exact Std.le_of_lt (ss_get hsn.1 hni hq (by omega))
          · rw [show pre ++ a :: n[i] :: p = (pre ++ [a]) ++ n[i] :: p by simp]
            refine Ev.step (f := fun k => (PQueryCalls.lanternref1_Has.f k (L.map U) (U n[i])).bind fun t482 => if t482 = true then PQueryCalls.lanternref22_Path.l2 k (es.map toC50) (far.map (·.map U)) (((pre ++ [a]) ++ [n[i]]).map U) ((j : Int) - 1)
              else PQueryCalls.lanternref22_Path.l3 k (es.map toC50) (far.map (·.map U)) ((pre ++ [a]).map U) (j : Int) (n.map U) ((i + 1 : Nat) : Int)) (fun k => ?_) (Ev.bind hH (Ev.congr (fun k => by rw [if_pos rfl]) hEv))
            show PQueryCalls.lanternref22_Path.l3 (k + 1) _ _ _ _ _ _ = _
            rw [PQueryCalls.lanternref22_Path.l3]
            rw [if_pos (by simp; omega), if_pos (by omega), if_pos (by simp; omega), if_pos (by omega), rdL hL, rds_of hni]
            rw [show wrap64 ((j : Int) - 1) = (j : Int) - 1 by unfold wrap64; omega, show wrap64 ((i : Int) + 1) = ((i + 1 : Nat) : Int) by unfold wrap64; omega]
            rw [if_pos (by simp; omega), List.map_append (l₁ := pre ++ [a])]
            rfl
        · rw [decide_eq_false hin] at hH
          obtain ⟨p, hG, hEv⟩ := ihm (i + 1) (by omega) (by omega) (fun q t hq ht => by
            by_cases hqi : q = i
            · subst hqi
              rw [hni] at ht
              cases ht
              exact fun c => hin ((hLm _).2 c)
            · exact hno q t (by omega) ht)
          refine ⟨p, hG, ?_⟩
          refine Ev.step (f := fun k => (PQueryCalls.lanternref1_Has.f k (L.map U) (U n[i])).bind fun t482 => if t482 = true then PQueryCalls.lanternref22_Path.l2 k (es.map toC50) (far.map (·.map U)) (((pre ++ [a]) ++ [n[i]]).map U) ((j : Int) - 1)
              else PQueryCalls.lanternref22_Path.l3 k (es.map toC50) (far.map (·.map U)) ((pre ++ [a]).map U) (j : Int) (n.map U) ((i + 1 : Nat) : Int)) (fun k => ?_) (Ev.bind hH (Ev.congr (fun k => by rw [if_neg (by simp)]) hEv))
          show PQueryCalls.lanternref22_Path.l3 (k + 1) _ _ _ _ _ _ = _
          rw [PQueryCalls.lanternref22_Path.l3]
          rw [if_pos (by simp; omega), if_pos (by omega), if_pos (by simp; omega), if_pos (by omega), rdL hL, rds_of hni]
          rw [show wrap64 ((j : Int) - 1) = (j : Int) - 1 by unfold wrap64; omega, show wrap64 ((i : Int) + 1) = ((i + 1 : Nat) : Int) by unfold wrap64; omega]
          rw [if_pos (by simp; omega), List.map_append (l₁ := pre ++ [a])]
          rfl
    obtain ⟨p, hG, hEv⟩ := l3 n.length 0 (by omega) (by omega) (fun q t hq => absurd hq (Nat.not_lt_zero _))
    refine ⟨p, hG, ?_⟩
    refine Ev.step (f := fun k => (PQueryCalls.lanternref22_next.f k (es.map toC50) (U a)).bind fun t477 => PQueryCalls.lanternref22_Path.l3 k (es.map toC50) (far.map (·.map U)) ((pre ++ [a]).map U) (j : Int) t477 0) (fun k => ?_) (Ev.bind hne hEv)
    show PQueryCalls.lanternref22_Path.l2 (k + 1) _ _ _ _ = _
    have hlast : (pre ++ [a])[pre.length]? = some a := by simp
    rw [PQueryCalls.lanternref22_Path.l2]
    rw [show (((j + 1 : Nat) : Int) - 1) = (j : Int) by omega]
    rw [show wrap64 ((((pre ++ [a]).map U).length : Int) - 1) = (pre.length : Int) by rw [List.length_map, List.length_append, List.length_singleton]; unfold wrap64; omega]
    rw [if_pos (by omega), if_pos (by omega), if_pos (by simp; omega), rds_of hlast]

theorem path_l1 (es : List (S × Int × S)) (f : S) (far : List (List S)) (all : List S) (hn : es.length ≤ 1000000) (hal : all.length ≤ 4000000000000) (hfar : far.length ≤ 1000001) (r : List ByteArray × Int)
    (hnone : moreOf all es = [] → r = ([], 11)) (hsome : moreOf all es ≠ [] → ∀ s, IsSrt (moreOf all es) s → s.length ≤ es.length → Ev (fun k => PQueryCalls.lanternref22_Path.l0 k (es.map toC50) (U f) ((far ++ [s]).map (·.map U)) ((all ++ moreOf all es).map U)) r) : ∀ (m i : Nat), es.length - i = m → i ≤ es.length →
    Ev (fun k => PQueryCalls.lanternref22_Path.l1 k (es.map toC50) (U f) (far.map (·.map U)) (all.map U) ((moreOf all (es.take i)).map U) (i : Int)) r := by
  have hml : ∀ i, (moreOf all (es.take i)).length ≤ es.length := fun i => by
    unfold moreOf
    rw [List.length_map]
    exact Nat.le_trans (List.length_filter_le _ _) (by simp; omega)
  intro m
  induction m with
  | zero =>
    intro i hm hi
    have : i = es.length := by omega
    subst this
    have hl := hml es.length
    rw [List.take_length] at hl ⊢
    by_cases h0 : moreOf all es = []
    · refine Ev.step (f := fun _ => some _) (fun k => ?_) (Ev.now r)
      show PQueryCalls.lanternref22_Path.l1 (k + 1) _ _ _ _ _ _ = _
      rw [PQueryCalls.lanternref22_Path.l1]
      rw [if_neg (by simp), h0, if_pos (by simp), hnone h0]
    · obtain ⟨s, hs, hsl, hsE⟩ := srt_f (moreOf all es) (by omega)
      have hne : 0 < (moreOf all es).length := List.length_pos_iff.2 h0
      refine Ev.step (f := fun k => (PQueryCalls.lanternref1_Sorted.f k ((moreOf all es).map U)).bind fun t456 => if (far.map (·.map U)).length < 5864062014805 then (if (all.map U).length + ((moreOf all es).map U).length < 8796093022208 then PQueryCalls.lanternref22_Path.l0 k (es.map toC50) (U f) (far.map (·.map U) ++ [t456]) (all.map U ++ (moreOf all es).map U) else none) else none) (fun k => ?_) (Ev.bind hsE (Ev.congr (fun k => ?_) (hsome h0 s hs (by omega))))
      · show PQueryCalls.lanternref22_Path.l1 (k + 1) _ _ _ _ _ _ = _
        rw [PQueryCalls.lanternref22_Path.l1]
        rw [if_neg (by simp), if_neg (by simp; exact h0)]
      · rw [if_pos (by simp; omega), if_pos (by simp; omega), List.map_append, List.map_append]
        rfl
  | succ m ih =>
    intro i hm hi
    have hlt : i < es.length := by omega
    have hT := hasC all es[i].2.2 (by omega)
    have hF := hasC all es[i].1 (by omega)
    have hI := ih (i + 1) (by omega) (by omega)
    have hl := hml i
    have hs : moreOf all (es.take (i + 1)) = moreOf all (es.take i) ++ (if decide (es[i].2.2 ∈ all) && !decide (es[i].1 ∈ all) then [es[i].1] else []) := by
      unfold moreOf
      rw [List.take_add_one, List.getElem?_eq_getElem hlt, Option.toList_some, List.filter_append, List.map_append]
      congr 1
      rw [List.filter_cons, List.filter_nil]
      split <;> rfl
    refine Ev.step (f := fun k => (PQueryCalls.lanternref1_Has.f k (all.map U) (U es[i].2.2)).bind fun t466 => if t466 = true then (PQueryCalls.lanternref1_Has.f k (all.map U) (U es[i].1)).bind fun t468 =>
        if t468 = true then PQueryCalls.lanternref22_Path.l1 k (es.map toC50) (U f) (far.map (·.map U)) (all.map U) ((moreOf all (es.take i)).map U) ((i + 1 : Nat) : Int)
        else PQueryCalls.lanternref22_Path.l1 k (es.map toC50) (U f) (far.map (·.map U)) (all.map U) ((moreOf all (es.take i)).map U ++ [U es[i].1]) ((i + 1 : Nat) : Int)
      else PQueryCalls.lanternref22_Path.l1 k (es.map toC50) (U f) (far.map (·.map U)) (all.map U) ((moreOf all (es.take i)).map U) ((i + 1 : Nat) : Int)) (fun k => ?_) (Ev.bind hT ?_)
    · show PQueryCalls.lanternref22_Path.l1 (k + 1) _ _ _ _ _ _ = _
      rw [PQueryCalls.lanternref22_Path.l1]
      rw [if_pos (by simp; omega), if_pos (by omega), rdC es (List.getElem?_eq_getElem hlt)]
      rw [show (toC50 es[i]).f0 = U es[i].1 from rfl, show (toC50 es[i]).f2 = U es[i].2.2 from rfl, show wrap64 ((i : Int) + 1) = ((i + 1 : Nat) : Int) by unfold wrap64; omega]
      rw [if_pos (by simp; omega)]
    · by_cases h1 : es[i].2.2 ∈ all
      · refine Ev.congr (fun k => by rw [if_pos (by simpa using h1)]) (Ev.bind hF ?_)
        by_cases h2 : es[i].1 ∈ all
        · rw [hs] at hI
          simp only [h1, h2, decide_true, Bool.not_true, Bool.and_false, Bool.false_eq_true, if_false, List.append_nil] at hI
          exact Ev.congr (fun k => by rw [if_pos (by simpa using h2)]) hI
        · rw [hs] at hI
          simp only [h1, h2, decide_true, decide_false, Bool.not_false, Bool.and_true, if_true, List.map_append] at hI
          exact Ev.congr (fun k => by rw [if_neg (by simpa using h2)]; rfl) hI
      · rw [hs] at hI
        simp only [h1, decide_false, Bool.false_and, Bool.false_eq_true, if_false, List.append_nil] at hI
        exact Ev.congr (fun k => by rw [if_neg (by simpa using h1)]) hI

theorem filter_lt {α : Type} {p q : α → Bool} (l : List α) (hpq : ∀ x, q x = true → p x = true) (x : α) (hx : x ∈ l) (hp : p x = true) (hq : q x = false) : (l.filter q).length < (l.filter p).length := by
  have hle : ∀ l : List α, (l.filter q).length ≤ (l.filter p).length := by
    intro l
    induction l with
    | nil => simp
    | cons y l ih =>
      rw [List.filter_cons, List.filter_cons]
      by_cases h : q y = true
      · rw [if_pos h, if_pos (hpq y h)]
        simpa using ih
      · rw [if_neg h]
        split
        · simp; omega
        · exact ih
  induction l with
  | nil => cases hx
  | cons y l ih =>
    rw [List.filter_cons, List.filter_cons]
    rcases List.mem_cons.1 hx with rfl | hx
    · rw [if_neg (by simp [hq]), if_pos hp]
      have := hle l
      simp; omega
    · have := ih hx
      by_cases h : q y = true
      · rw [if_pos h, if_pos (hpq y h)]
        simpa using this
      · rw [if_neg h]
        split
        · simp; omega
        · exact this

theorem path_l0 (es : List (S × Int × S)) (tt f : S) (hn : es.length ≤ 100000) : ∀ (m : Nat) (far : List (List S)) (all : List S), Lv es tt far all f → (es.filter fun e => !decide (e.1 ∈ all)).length ≤ m → far.length + m ≤ es.length + 1 → all.length ≤ far.length * 100001 →
    ∃ r c, Res es f tt r c ∧ r.length ≤ 1000001 ∧ Ev (fun k => PQueryCalls.lanternref22_Path.l0 k (es.map toC50) (U f) (far.map (·.map U)) (all.map U)) (r.map U, c) := by
  intro m
  induction m with
  | zero =>
    intro far all h hm hfar hall
    have hfl : far.length ≤ 100001 := by omega
    have hal : all.length ≤ 4000000000000 := by
      have := Nat.mul_le_mul_right 100001 hfl
      omega
    have hH := hasC all f (by omega)
    by_cases hf : f ∈ all
    · rw [decide_eq_true hf] at hH
      obtain ⟨j, hj, ha⟩ := (h.mem f).1 hf
      have hj1 : far.length = j + 1 := by
        apply Classical.byContradiction
        intro c
        exact h.new j (by omega) ha
      obtain ⟨p, hG, hE⟩ := path_l2 es tt f far all h (by omega) (by omega) j f [] hj ha (by simp; omega)
      have hGl := hG.length
      refine ⟨f :: p, 0, .inl ⟨rfl, j, hG, rfl⟩, by omega, ?_⟩
      refine Ev.step (f := fun k => (PQueryCalls.lanternref1_Has.f k (all.map U) (U f)).bind fun t455 => if t455 = true then PQueryCalls.lanternref22_Path.l2 k (es.map toC50) (far.map (·.map U)) [U f] ((j : Int) - 1) else PQueryCalls.lanternref22_Path.l1 k (es.map toC50) (U f) (far.map (·.map U)) (all.map U) [] 0) (fun k => ?_) (Ev.bind hH (Ev.congr (fun k => by rw [if_pos rfl]; rfl) hE))
      show PQueryCalls.lanternref22_Path.l0 (k + 1) _ _ _ _ = _
      rw [PQueryCalls.lanternref22_Path.l0]
      rw [show wrap64 (((far.map (·.map U)).length : Int) - 2) = (j : Int) - 1 by rw [List.length_map, hj1]; unfold wrap64; omega]
    · have hmore : moreOf all es = [] := by
        rw [List.eq_nil_iff_forall_not_mem]
        intro x hx
        unfold moreOf at hx
        obtain ⟨e, he, rfl⟩ := List.mem_map.1 hx
        rw [List.mem_filter, Bool.and_eq_true] at he
        have : e ∈ es.filter fun e => !decide (e.1 ∈ all) := List.mem_filter.2 ⟨he.1, he.2.2⟩
        have := List.length_pos_of_mem this
        omega
      rw [decide_eq_false hf] at hH
      have hE := path_l1 es f far all (by omega) hal (by omega) (([] : List ByteArray), 11) (fun _ => rfl) (fun c => absurd hmore c) es.length 0 (by omega) (by omega)
      refine ⟨[], 11, .inr ⟨rfl, rfl, fun d hd => ?_⟩, by simp, ?_⟩
      · by_cases hdl : d < far.length
        · exact hf ((h.mem f).2 ⟨d, hdl, hd⟩)
        · obtain ⟨y, hy⟩ := at_down hd (show far.length ≤ d by omega)
          have := (mem_moreOf h y).2 hy
          rw [hmore] at this
          cases this
      · refine Ev.step (f := fun k => (PQueryCalls.lanternref1_Has.f k (all.map U) (U f)).bind fun t455 => if t455 = true then PQueryCalls.lanternref22_Path.l2 k (es.map toC50) (far.map (·.map U)) [U f] (wrap64 (((far.map (·.map U)).length : Int) - 2)) else PQueryCalls.lanternref22_Path.l1 k (es.map toC50) (U f) (far.map (·.map U)) (all.map U) [] 0) (fun k => ?_) (Ev.bind hH (Ev.congr (fun k => by rw [if_neg (by simp)]; rfl) hE))
        show PQueryCalls.lanternref22_Path.l0 (k + 1) _ _ _ _ = _
        rw [PQueryCalls.lanternref22_Path.l0]
  | succ m ih =>
    intro far all h hm hfar hall
    have hfl : far.length ≤ 100001 := by omega
    have hal : all.length ≤ 4000000000000 := by
      have := Nat.mul_le_mul_right 100001 hfl
      omega
    have hH := hasC all f (by omega)
    by_cases hf : f ∈ all
    · rw [decide_eq_true hf] at hH
      obtain ⟨j, hj, ha⟩ := (h.mem f).1 hf
      have hj1 : far.length = j + 1 := by
        apply Classical.byContradiction
        intro c
        exact h.new j (by omega) ha
      obtain ⟨p, hG, hE⟩ := path_l2 es tt f far all h (by omega) (by omega) j f [] hj ha (by simp; omega)
      have hGl := hG.length
      refine ⟨f :: p, 0, .inl ⟨rfl, j, hG, rfl⟩, by omega, ?_⟩
      refine Ev.step (f := fun k => (PQueryCalls.lanternref1_Has.f k (all.map U) (U f)).bind fun t455 => if t455 = true then PQueryCalls.lanternref22_Path.l2 k (es.map toC50) (far.map (·.map U)) [U f] ((j : Int) - 1) else PQueryCalls.lanternref22_Path.l1 k (es.map toC50) (U f) (far.map (·.map U)) (all.map U) [] 0) (fun k => ?_) (Ev.bind hH (Ev.congr (fun k => by rw [if_pos rfl]; rfl) hE))
      show PQueryCalls.lanternref22_Path.l0 (k + 1) _ _ _ _ = _
      rw [PQueryCalls.lanternref22_Path.l0]
      rw [show wrap64 (((far.map (·.map U)).length : Int) - 2) = (j : Int) - 1 by rw [List.length_map, hj1]; unfold wrap64; omega]
    · rw [decide_eq_false hf] at hH
      have hst : ∀ (r : List ByteArray × Int), Ev (fun k => PQueryCalls.lanternref22_Path.l1 k (es.map toC50) (U f) (far.map (·.map U)) (all.map U) [] 0) r → Ev (fun k => PQueryCalls.lanternref22_Path.l0 k (es.map toC50) (U f) (far.map (·.map U)) (all.map U)) r := fun r hE => by
        refine Ev.step (f := fun k => (PQueryCalls.lanternref1_Has.f k (all.map U) (U f)).bind fun t455 => if t455 = true then PQueryCalls.lanternref22_Path.l2 k (es.map toC50) (far.map (·.map U)) [U f] (wrap64 (((far.map (·.map U)).length : Int) - 2)) else PQueryCalls.lanternref22_Path.l1 k (es.map toC50) (U f) (far.map (·.map U)) (all.map U) [] 0) (fun k => ?_) (Ev.bind hH (Ev.congr (fun k => by rw [if_neg (by simp)]) hE))
        show PQueryCalls.lanternref22_Path.l0 (k + 1) _ _ _ _ = _
        rw [PQueryCalls.lanternref22_Path.l0]
      by_cases hmore : moreOf all es = []
      · have hE := path_l1 es f far all (by omega) hal (by omega) (([] : List ByteArray), 11) (fun _ => rfl) (fun c => absurd hmore c) es.length 0 (by omega) (by omega)
        refine ⟨[], 11, .inr ⟨rfl, rfl, fun d hd => ?_⟩, by simp, hst _ hE⟩
        by_cases hdl : d < far.length
        · exact hf ((h.mem f).2 ⟨d, hdl, hd⟩)
        · obtain ⟨y, hy⟩ := at_down hd (show far.length ≤ d by omega)
          have := (mem_moreOf h y).2 hy
          rw [hmore] at this
          cases this
      · have hml : (moreOf all es).length ≤ es.length := by unfold moreOf; rw [List.length_map]; exact List.length_filter_le _ _
        obtain ⟨s0, hs0, hs0l, _⟩ := srt_f (moreOf all es) (by omega)
        have hL : Lv es tt (far ++ [s0]) (all ++ moreOf all es) f := by
          refine ⟨by simp, fun j L hj x => ?_, fun x => ?_, fun j hj ha => ?_, fun L hL => ?_⟩
          · by_cases hjl : j < far.length
            · rw [List.getElem?_append_left hjl] at hj
              exact h.lev j L hj x
            · rw [List.getElem?_append_right (by omega)] at hj
              have hj0 : j - far.length = 0 := by
                have := (List.getElem?_eq_some_iff.1 hj).1
                simp at this
                omega
              rw [hj0] at hj
              cases hj
              have : j = far.length := by omega
              rw [this, hs0.2, mem_moreOf h]
          · rw [List.mem_append, h.mem, mem_moreOf h, List.length_append, List.length_singleton]
            constructor
            · rintro (⟨j, hj, ha⟩ | ha)
              · exact ⟨j, by omega, ha⟩
              · exact ⟨_, by omega, ha⟩
            · rintro ⟨j, hj, ha⟩
              by_cases hjl : j < far.length
              · exact .inl ⟨j, hjl, ha⟩
              · right
                have : j = far.length := by omega
                rw [← this]
                exact ha
          · rw [List.length_append, List.length_singleton] at hj
            exact hf ((h.mem f).2 ⟨j, by omega, ha⟩)
          · rcases List.mem_append.1 hL with hL | hL
            · exact h.short L hL
            · rw [List.mem_singleton] at hL
              subst hL
              omega
        have hcnt : (es.filter fun e => !decide (e.1 ∈ all ++ moreOf all es)).length ≤ m := by
          obtain ⟨x, hx⟩ := List.exists_mem_of_ne_nil _ hmore
          have hx' := hx
          unfold moreOf at hx
          obtain ⟨e, he, rfl⟩ := List.mem_map.1 hx
          rw [List.mem_filter, Bool.and_eq_true] at he
          have := filter_lt (p := fun e : S × Int × S => !decide (e.1 ∈ all)) (q := fun e : S × Int × S => !decide (e.1 ∈ all ++ moreOf all es)) es (fun y hy => by
            simp only [Bool.not_eq_true', decide_eq_false_iff_not, List.mem_append, not_or] at hy ⊢
            exact hy.1) e he.1 he.2.2 (by simp only [Bool.not_eq_false', decide_eq_true_eq, List.mem_append]; exact .inr hx')
          omega
        obtain ⟨r, c, hres, hrl, hE⟩ := ih (far ++ [s0]) (all ++ moreOf all es) hL hcnt (by rw [List.length_append, List.length_singleton]; omega) (by rw [List.length_append, List.length_append, List.length_singleton, Nat.add_mul]; omega)
        have hE1 := path_l1 es f far all (by omega) hal (by omega) (r.map U, c) (fun c => absurd c hmore) (fun _ s hs _ => by
          have := hs.uniq hs0
          subst this
          exact hE) es.length 0 (by omega) (by omega)
        exact ⟨r, c, hres, hrl, hst _ hE1⟩

theorem path_f (es : List (S × Int × S)) (f tt : S) (hn : es.length ≤ 100000) : ∃ r c, Res es f tt r c ∧ r.length ≤ 1000001 ∧ Ev (fun k => PQueryCalls.lanternref22_Path.f k (es.map toC50) (U f) (U tt)) (r.map U, c) := by
  have h0 : At es tt tt 0 := ⟨⟨tt, List.mem_singleton.2 rfl, .nil tt⟩, fun _ _ _ _ => Nat.zero_le _⟩
  have hL : Lv es tt [[tt]] [tt] f := by
    refine ⟨by simp, fun j L hj x => ?_, fun x => ?_, fun j hj => by simp at hj, fun L hL => ?_⟩
    · have hj0 : j = 0 := by
        have := (List.getElem?_eq_some_iff.1 hj).1
        simp at this
        omega
      subst hj0
      cases hj
      rw [List.mem_singleton]
      exact ⟨fun e => by rw [e]; exact h0, at_zero⟩
    · rw [List.mem_singleton]
      constructor
      · intro e
        exact ⟨0, by simp, by rw [e]; exact h0⟩
      · rintro ⟨j, hj, ha⟩
        have : j = 0 := by simp at hj; omega
        subst this
        exact at_zero ha
    · rw [List.mem_singleton] at hL
      subst hL
      simp
  obtain ⟨r, c, h1, h2, h3⟩ := path_l0 es tt f hn es.length [[tt]] [tt] hL (List.length_filter_le _ _) (by simp; omega) (by simp)
  exact ⟨r, c, h1, h2, Ev.congr (fun _ => rfl) h3⟩

theorem C_of_edgesC {w : World} {A : Option Addr} {es : List (S × Int × S)} (h : EdgeRow w A es) (hn : es.length ≤ 9223372036854775807) : Kd.C PQueryCalls.k50 w A es.length (es.map toC50) := by
  refine ⟨by simp, by omega, fun h0 => ?_⟩
  obtain ⟨ad, rfl, _⟩ := h 0 _ (List.getElem?_eq_getElem h0)
  refine ⟨ad, rfl, fun j p hp => ?_⟩
  rw [List.getElem?_map] at hp
  obtain ⟨e, he, rfl⟩ := Option.map_eq_some_iff.1 hp
  obtain ⟨ad', ea, c0, c1, c2⟩ := h j e he
  cases ea
  refine ⟨_, rfl, PQueryCalls.k50_mk w _, fun i u hu => ?_⟩
  show w.cell? (ad.add (j * 3 + i)) = some u
  match i, hu with
  | 0, hu => cases hu; exact c0
  | 1, hu => cases hu; rw [add_field _ _ 1 (by omega)]; exact c1
  | 2, hu => cases hu; rw [add_field _ _ 2 (by omega)]; exact c2

theorem strsC {w : World} {A : Option Addr} {l : List ByteArray} (h : Kd.C Kd.string w A l.length l) : StrRow w A (l.map B) := by
  intro k x hx
  rw [List.getElem?_map, Option.map_eq_some_iff] at hx
  obtain ⟨s, hs, rfl⟩ := hx
  have hk : k < l.length := (List.getElem?_eq_some_iff.1 hs).1
  obtain ⟨_, _, h3⟩ := h
  obtain ⟨ad, rfl, h4⟩ := h3 (by omega)
  obtain ⟨cs, _, hK, hc⟩ := h4 k s hs
  have hK' : cs = [.string s] := hK
  subst hK'
  have := hc 0 _ rfl
  refine ⟨ad, rfl, ?_⟩
  rw [U_B]
  have e : k * (Kd.string).sz + 0 = k := Nat.mul_one k
  rw [e] at this
  exact this

/-- The reference's Path: a way, and 0; or none, and 11. -/
theorem refPath28 {A : Option Addr} {c : Nat} {es : List (S × Int × S)} {w : World} (h : EdgeRow w A es) (hc : es.length ≤ c) (hn : es.length ≤ 100000) (f tt : S) :
    Calls Try.prog 28 #[.slice A es.length c, .string (U f), .string (U tt)] w fun e w' => ∃ A' c' r z, e = .returned (.tuple #[.slice A' r.length c', .int .i64 z]) ∧ r.length ≤ c' ∧ r.length ≤ 1000001 ∧ StrRow w' A' r ∧ Res es f tt r z ∧ Below w.heap.size w w' := by
  obtain ⟨r, z, hres, hl, hE⟩ := path_f es f tt hn
  obtain ⟨k, hk⟩ := hE.rounds
  have hC := C_of_edgesC h (by omega)
  have := PQueryCalls.lanternref22_Path.calls k A c (es.map toC50) (U f) (U tt) (r.map U) z w (by simpa using hC) (by simpa using hc) hk
  simp only [List.length_map] at this
  refine this.mono ?_
  rintro ee w' ⟨vv, rfl, hR, hB⟩
  obtain ⟨A', c', rfl, hle, hCr⟩ := Kd.R_reads hR
  have hst := strsC hCr
  rw [List.map_map, show (B ∘ U) = id from rfl, List.map_id] at hst
  exact ⟨A', c', r, z, by simp, by simpa using hle, hl, hst, hres, hB⟩
end Go.Proofs.Ytljfknneijmfoaa
