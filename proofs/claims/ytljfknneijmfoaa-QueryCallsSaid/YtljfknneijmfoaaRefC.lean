import Derived.Test.YtljfknneijmfoaaRefP
import Derived.Test.YtljfknneijmfoaaFp
import Derived.Test.YtljfknneijmfoaaESame
namespace Go.Proofs.Ytljfknneijmfoaa
open Go.RowKit Go.Maps Go.WideMaps
open Go.Proofs.YtljfknneijmfoaaW.PrintWords

def toC74 (r : S × List Int) : PQueryCalls.S74 := ⟨U r.1, r.2⟩

theorem C_of_setsC {w : World} {A : Option Addr} {rows : List (S × List Int)} (h : SetRow w A rows) (hn : rows.length ≤ 9223372036854775807) (hl : ∀ r ∈ rows, r.2.length ≤ 9223372036854775807) : Kd.C PQueryCalls.k74 w A rows.length (rows.map toC74) := by
  refine ⟨by simp, by omega, fun h0 => ?_⟩
  obtain ⟨ad, _, _, rfl, _⟩ := h 0 _ (List.getElem?_eq_getElem h0)
  refine ⟨ad, rfl, fun j p hp => ?_⟩
  rw [List.getElem?_map] at hp
  obtain ⟨r, hr, rfl⟩ := Option.map_eq_some_iff.1 hp
  obtain ⟨ad', Ai, ci, ea, c0, c1, hle, hI⟩ := h j r hr
  cases ea
  refine ⟨_, rfl, PQueryCalls.k74_mk w (toC74 r) hle (C_of_ints hI (hl r (List.mem_of_getElem? hr))), fun i u hu => ?_⟩
  show w.cell? (ad.add (j * 2 + i)) = some u
  match i, hu with
  | 0, hu => cases hu; exact c0
  | 1, hu => cases hu; rw [add_field _ _ 1 (by omega)]; exact c1

/-- Callers or callees. -/
def sel (b : Bool) (key : S) (e : S × Int × S) : Bool := if b then isTo key e else isFrom key e

theorem take_filter (f : S × Int × S → Bool) (es : List (S × Int × S)) (i : Nat) (h : i < es.length) : (es.take (i + 1)).filter f = (es.take i).filter f ++ (if f es[i] = true then [es[i]] else []) := by
  rw [List.take_add_one, List.getElem?_eq_getElem h, Option.toList_some, List.filter_append]
  congr 1
  rw [List.filter_cons, List.filter_nil]

theorem some_l0 (a0 : ByteArray) (q1 : List ByteArray) (q2 : List PQueryCalls.S74) (q4 q5 : List ByteArray) (es : List (S × Int × S)) (b : Bool) (key : S) (hn : es.length ≤ 1000000) : ∀ (m i : Nat), es.length - i = m → i ≤ es.length →
    Ev (fun k => PQueryCalls.lanternref22_Some.l0 k (U key) b (((es.take i).filter (sel b key)).map toC50) (i : Int) a0 q1 q2 (es.map toC50) q4 q5) ((es.filter (sel b key)).map toC50) := by
  intro m
  induction m with
  | zero =>
    intro i hm hi
    have : i = es.length := by omega
    subst this
    refine Ev.step (f := fun _ => some _) (fun k => ?_) (Ev.now _)
    show PQueryCalls.lanternref22_Some.l0 (k + 1) _ _ _ _ _ _ _ _ _ _ = _
    rw [PQueryCalls.lanternref22_Some.l0]
    rw [if_neg (by simp), List.take_length]
  | succ m ih =>
    intro i hm hi
    have hlt : i < es.length := by omega
    have hl : ((es.take i).filter (sel b key)).length ≤ es.length := Nat.le_trans (List.length_filter_le _ _) (by simp; omega)
    refine Ev.step (fun k => ?_) (ih (i + 1) (by omega) (by omega))
    show PQueryCalls.lanternref22_Some.l0 (k + 1) _ _ _ _ _ _ _ _ _ _ = _
    rw [PQueryCalls.lanternref22_Some.l0]
    rw [if_pos (by simp; omega), rdC es (List.getElem?_eq_getElem hlt), take_filter _ es i hlt]
    rw [show (toC50 es[i]).f0 = U es[i].1 from rfl, show (toC50 es[i]).f2 = U es[i].2.2 from rfl, show (toC50 es[i]).f1 = es[i].2.1 from rfl, toList_U, toList_U, toList_U]
    rw [show wrap64 ((i : Int) + 1) = ((i + 1 : Nat) : Int) by unfold wrap64; omega]
    cases b with
    | true =>
      rw [if_pos rfl, if_pos (by omega)]
      by_cases h : es[i].2.2 = key
      · rw [if_pos h, if_pos (by simp; omega), if_pos (by simp [sel, isTo, h]), List.map_append]
        rfl
      · rw [if_neg h, if_neg (by simp [sel, isTo, h]), List.append_nil]
    | false =>
      rw [if_neg (by simp), if_pos (by omega)]
      by_cases h : es[i].1 = key
      · rw [if_pos h, if_pos (by simp; omega), if_pos (by simp [sel, isFrom, h]), List.map_append]
        rfl
      · rw [if_neg h, if_neg (by simp [sel, isFrom, h]), List.append_nil]

theorem at_l0 (a0 : ByteArray) (q1 : List ByteArray) (q2 : List PQueryCalls.S74) (q4 q5 : List ByteArray) (es : List (S × Int × S)) (key : S) (pc : Int) (hn : es.length ≤ 1000000) : ∀ (m i : Nat), es.length - i = m → i ≤ es.length →
    Ev (fun k => PQueryCalls.lanternref22_At.l0 k (U key) pc ((((es.take i).filter (isAt key pc)).map (·.2.2)).map U) (i : Int) a0 q1 q2 (es.map toC50) q4 q5) (((es.filter (isAt key pc)).map (·.2.2)).map U) := by
  intro m
  induction m with
  | zero =>
    intro i hm hi
    have : i = es.length := by omega
    subst this
    refine Ev.step (f := fun _ => some _) (fun k => ?_) (Ev.now _)
    show PQueryCalls.lanternref22_At.l0 (k + 1) _ _ _ _ _ _ _ _ _ _ = _
    rw [PQueryCalls.lanternref22_At.l0]
    rw [if_neg (by simp), List.take_length]
  | succ m ih =>
    intro i hm hi
    have hlt : i < es.length := by omega
    have hl : ((es.take i).filter (isAt key pc)).length ≤ es.length := Nat.le_trans (List.length_filter_le _ _) (by simp; omega)
    refine Ev.step (fun k => ?_) (ih (i + 1) (by omega) (by omega))
    show PQueryCalls.lanternref22_At.l0 (k + 1) _ _ _ _ _ _ _ _ _ _ = _
    rw [PQueryCalls.lanternref22_At.l0]
    rw [if_pos (by simp; omega), if_pos (by omega), rdC es (List.getElem?_eq_getElem hlt), take_filter _ es i hlt]
    rw [show (toC50 es[i]).f0 = U es[i].1 from rfl, show (toC50 es[i]).f2 = U es[i].2.2 from rfl, show (toC50 es[i]).f1 = es[i].2.1 from rfl, toList_U, toList_U]
    rw [show wrap64 ((i : Int) + 1) = ((i + 1 : Nat) : Int) by unfold wrap64; omega]
    by_cases h : es[i].1 = key
    · rw [if_pos h]
      by_cases h2 : es[i].2.1 = pc
      · rw [if_pos h2, if_pos (by simp; omega), if_pos (by simp [isAt, h, h2]), List.map_append, List.map_append]
        rfl
      · rw [if_neg h2, if_neg (by simp [isAt, h2]), List.append_nil]
    · rw [if_neg h, if_neg (by simp [isAt, h]), List.append_nil]

theorem lone_l1 (a0 : ByteArray) (q1 : List ByteArray) (q2 : List PQueryCalls.S74) (q4 q5 : List ByteArray) (es : List (S × Int × S)) (hn : es.length ≤ 1000000) (i : Nat) (hi : i < es.length) (acc : List (S × Int × S)) (hacc : acc.length ≤ es.length) (R : List PQueryCalls.S50)
    (hR : Ev (fun k => PQueryCalls.lanternref22_Lonely.l0 k ((acc ++ (if isLone es es[i] = true then [es[i]] else [])).map toC50) ((i + 1 : Nat) : Int) a0 q1 q2 (es.map toC50) q4 q5) R) : ∀ (m q : Nat), es.length - q = m → q ≤ es.length →
    Ev (fun k => PQueryCalls.lanternref22_Lonely.l1 k (acc.map toC50) (i : Int) ((((es.take q).filter (isAt es[i].1 es[i].2.1)).length : Nat) : Int) (q : Int) a0 q1 q2 (es.map toC50) q4 q5) R := by
  have hri := rdC es (List.getElem?_eq_getElem hi)
  intro m
  induction m with
  | zero =>
    intro q hm hq
    have : q = es.length := by omega
    subst this
    refine Ev.step (fun k => ?_) hR
    show PQueryCalls.lanternref22_Lonely.l1 (k + 1) _ _ _ _ _ _ _ _ _ _ = _
    rw [PQueryCalls.lanternref22_Lonely.l1]
    rw [if_neg (by simp), List.take_length, show wrap64 ((i : Int) + 1) = ((i + 1 : Nat) : Int) by unfold wrap64; omega, hri]
    by_cases h : (es.filter (isAt es[i].1 es[i].2.1)).length = 1
    · rw [if_pos (by rw [h]; rfl), if_pos (by omega), if_pos (by simp; omega), if_pos (by simp; omega), if_pos (by simpa [isLone] using h), List.map_append]
      rfl
    · rw [if_neg (by omega), if_neg (by simpa [isLone] using h), List.append_nil]
  | succ m ih =>
    intro q hm hq
    have hlt : q < es.length := by omega
    have hl : ((es.take q).filter (isAt es[i].1 es[i].2.1)).length ≤ es.length := Nat.le_trans (List.length_filter_le _ _) (by simp; omega)
    refine Ev.step (fun k => ?_) (ih (q + 1) (by omega) (by omega))
    show PQueryCalls.lanternref22_Lonely.l1 (k + 1) _ _ _ _ _ _ _ _ _ _ = _
    rw [PQueryCalls.lanternref22_Lonely.l1]
    rw [if_pos (by simp; omega), if_pos (by omega), if_pos (by omega), if_pos (by simp; omega), rdC es (List.getElem?_eq_getElem hlt), hri, take_filter _ es q hlt]
    rw [show (toC50 es[q]).f0 = U es[q].1 from rfl, show (toC50 es[i]).f0 = U es[i].1 from rfl, show (toC50 es[q]).f1 = es[q].2.1 from rfl, show (toC50 es[i]).f1 = es[i].2.1 from rfl, toList_U, toList_U]
    rw [show wrap64 ((q : Int) + 1) = ((q + 1 : Nat) : Int) by unfold wrap64; omega]
    by_cases h : es[q].1 = es[i].1
    · rw [if_pos h]
      by_cases h2 : es[q].2.1 = es[i].2.1
      · rw [if_pos h2, if_pos (by simp [isAt, h, h2]), show wrap64 ((((es.take q).filter (isAt es[i].1 es[i].2.1)).length : Int) + 1) = ((((es.take q).filter (isAt es[i].1 es[i].2.1)).length + 1 : Nat) : Int) by unfold wrap64; omega, List.length_append, List.length_singleton]
      · rw [if_neg h2, if_neg (by simp [isAt, h2]), List.append_nil]
    · rw [if_neg h, if_neg (by simp [isAt, h]), List.append_nil]

theorem lone_l0 (a0 : ByteArray) (q1 : List ByteArray) (q2 : List PQueryCalls.S74) (q4 q5 : List ByteArray) (es : List (S × Int × S)) (hn : es.length ≤ 1000000) : ∀ (m i : Nat), es.length - i = m → i ≤ es.length →
    Ev (fun k => PQueryCalls.lanternref22_Lonely.l0 k (((es.take i).filter (isLone es)).map toC50) (i : Int) a0 q1 q2 (es.map toC50) q4 q5) ((es.filter (isLone es)).map toC50) := by
  intro m
  induction m with
  | zero =>
    intro i hm hi
    have : i = es.length := by omega
    subst this
    refine Ev.step (f := fun _ => some _) (fun k => ?_) (Ev.now _)
    show PQueryCalls.lanternref22_Lonely.l0 (k + 1) _ _ _ _ _ _ _ _ = _
    rw [PQueryCalls.lanternref22_Lonely.l0]
    rw [if_neg (by simp), List.take_length]
  | succ m ih =>
    intro i hm hi
    have hlt : i < es.length := by omega
    have hI := ih (i + 1) (by omega) (by omega)
    rw [take_filter _ es i hlt] at hI
    have h1 := lone_l1 a0 q1 q2 q4 q5 es hn i hlt ((es.take i).filter (isLone es)) (Nat.le_trans (List.length_filter_le _ _) (by simp; omega)) _ hI es.length 0 (by omega) (by omega)
    refine Ev.step (fun k => ?_) h1
    show PQueryCalls.lanternref22_Lonely.l0 (k + 1) _ _ _ _ _ _ _ _ = _
    rw [PQueryCalls.lanternref22_Lonely.l0]
    rw [if_pos (by simp; omega)]
    rfl

theorem edges_of_CC {w : World} {A : Option Addr} {l : List (S × Int × S)} (h : Kd.C PQueryCalls.k50 w A (l.map toC50).length (l.map toC50)) : EdgeRow w A l := by
  intro k e he
  have hk : k < l.length := (List.getElem?_eq_some_iff.1 he).1
  obtain ⟨ad, rfl, h0, h1, h2⟩ := PQueryCalls.at_T50 h (k : Int) (by omega) (by simp; omega)
  rw [rdC l he] at h0 h1 h2
  exact ⟨ad, rfl, h0, h1, h2⟩

section
variable (e : S) (As : Option Addr) (cs : Nat) (Ar : Option Addr) (cr : Nat) (Ae : Option Addr) (ce : Nat) (Ah : Option Addr) (ch : Nat) (Ai : Option Addr) (ci : Nat) (rows : List (S × List Int)) (sites : List S) (es : List (S × Int × S)) (reach inits : List S) (w : World)
variable (h1 : sites.length ≤ cs ∧ StrRow w As sites ∧ sites.length ≤ 9223372036854775807) (h2 : rows.length ≤ cr ∧ SetRow w Ar rows) (h3 : es.length ≤ ce ∧ EdgeRow w Ae es ∧ es.length ≤ 100000) (h4 : reach.length ≤ ch ∧ StrRow w Ah reach ∧ reach.length ≤ 9223372036854775807) (h5 : inits.length ≤ ci ∧ StrRow w Ai inits ∧ inits.length ≤ 9223372036854775807) (hsz : sizesR rows ≤ 2000)
include h1 h2 h3 h4 h5 hsz

theorem refSome35 (b : Bool) (key : S) : Calls Try.prog 35 #[.agg (repV e As sites.length cs Ar rows.length cr (.slice Ae es.length ce) (.slice Ah reach.length ch) (.slice Ai inits.length ci)), .string (U key), .bool b] w (EdgeAns w (es.filter (sel b key))) := by
  obtain ⟨g1, g2, g3⟩ := sizesR_length hsz
  obtain ⟨k, hk⟩ := (some_l0 (U e) (sites.map U) (rows.map toC74) (reach.map U) (inits.map U) es b key (by omega) es.length 0 (by omega) (by omega)).rounds
  have hr0_1 := C_of_strs h1.2.1 h1.2.2
  have hr0_2 := C_of_setsC h2.2 (by omega) (fun r hr => by have := g2 r hr; omega)
  have hr0_3 := C_of_edgesC h3.2.1 (by omega)
  have hr0_4 := C_of_strs h4.2.1 h4.2.2
  have hr0_5 := C_of_strs h5.2.1 h5.2.2
  have := PQueryCalls.lanternref22_Some.calls k (U e) As cs (sites.map U) Ar cr (rows.map toC74) Ae ce (es.map toC50) Ah ch (reach.map U) Ai ci (inits.map U) (U key) b _ w (by simpa using hr0_1) (by simpa using h1.1) (by simpa using hr0_2) (by simpa using h2.1) (by simpa using hr0_3) (by simpa using h3.1) (by simpa using hr0_4) (by simpa using h4.1) (by simpa using hr0_5) (by simpa using h5.1) hk
  simp only [List.length_map] at this
  refine this.mono ?_
  rintro ee w' ⟨vv, rfl, hR, hB⟩
  obtain ⟨A, c, rfl, hle, hC⟩ := Kd.R_reads hR
  exact ⟨A, c, by simp, by simpa using hle, edges_of_CC hC, hB⟩

theorem refLone40 : Calls Try.prog 40 #[.agg (repV e As sites.length cs Ar rows.length cr (.slice Ae es.length ce) (.slice Ah reach.length ch) (.slice Ai inits.length ci))] w (EdgeAns w (es.filter (isLone es))) := by
  obtain ⟨g1, g2, g3⟩ := sizesR_length hsz
  obtain ⟨k, hk⟩ := (lone_l0 (U e) (sites.map U) (rows.map toC74) (reach.map U) (inits.map U) es (by omega) es.length 0 (by omega) (by omega)).rounds
  have hr0_1 := C_of_strs h1.2.1 h1.2.2
  have hr0_2 := C_of_setsC h2.2 (by omega) (fun r hr => by have := g2 r hr; omega)
  have hr0_3 := C_of_edgesC h3.2.1 (by omega)
  have hr0_4 := C_of_strs h4.2.1 h4.2.2
  have hr0_5 := C_of_strs h5.2.1 h5.2.2
  have := PQueryCalls.lanternref22_Lonely.calls k (U e) As cs (sites.map U) Ar cr (rows.map toC74) Ae ce (es.map toC50) Ah ch (reach.map U) Ai ci (inits.map U) _ w (by simpa using hr0_1) (by simpa using h1.1) (by simpa using hr0_2) (by simpa using h2.1) (by simpa using hr0_3) (by simpa using h3.1) (by simpa using hr0_4) (by simpa using h4.1) (by simpa using hr0_5) (by simpa using h5.1) hk
  simp only [List.length_map] at this
  refine this.mono ?_
  rintro ee w' ⟨vv, rfl, hR, hB⟩
  obtain ⟨A, c, rfl, hle, hC⟩ := Kd.R_reads hR
  exact ⟨A, c, by simp, by simpa using hle, edges_of_CC hC, hB⟩

theorem refAt38 (key : S) (pc : Int) : Calls Try.prog 38 #[.agg (repV e As sites.length cs Ar rows.length cr (.slice Ae es.length ce) (.slice Ah reach.length ch) (.slice Ai inits.length ci)), .string (U key), .int .i64 pc] w fun ee w' => ∃ A c, ee = .returned (.slice A ((es.filter (isAt key pc)).map (·.2.2)).length c) ∧ ((es.filter (isAt key pc)).map (·.2.2)).length ≤ c ∧
      StrRow w' A ((es.filter (isAt key pc)).map (·.2.2)) ∧ Below w.heap.size w w' := by
  obtain ⟨g1, g2, g3⟩ := sizesR_length hsz
  obtain ⟨k, hk⟩ := (at_l0 (U e) (sites.map U) (rows.map toC74) (reach.map U) (inits.map U) es key pc (by omega) es.length 0 (by omega) (by omega)).rounds
  have hr0_1 := C_of_strs h1.2.1 h1.2.2
  have hr0_2 := C_of_setsC h2.2 (by omega) (fun r hr => by have := g2 r hr; omega)
  have hr0_3 := C_of_edgesC h3.2.1 (by omega)
  have hr0_4 := C_of_strs h4.2.1 h4.2.2
  have hr0_5 := C_of_strs h5.2.1 h5.2.2
  have := PQueryCalls.lanternref22_At.calls k (U e) As cs (sites.map U) Ar cr (rows.map toC74) Ae ce (es.map toC50) Ah ch (reach.map U) Ai ci (inits.map U) (U key) pc _ w (by simpa using hr0_1) (by simpa using h1.1) (by simpa using hr0_2) (by simpa using h2.1) (by simpa using hr0_3) (by simpa using h3.1) (by simpa using hr0_4) (by simpa using h4.1) (by simpa using hr0_5) (by simpa using h5.1) hk
  simp only [List.length_map] at this
  refine this.mono ?_
  rintro ee w' ⟨vv, rfl, hR, hB⟩
  obtain ⟨A, c, rfl, hle, hC⟩ := Kd.R_reads hR
  have hst := strsC hC
  rw [List.map_map, show (B ∘ U) = id from rfl, List.map_id] at hst
  exact ⟨A, c, by simp, by simpa using hle, hst, hB⟩
end
end Go.Proofs.Ytljfknneijmfoaa
