import Derived.Test.YtljfknneijmfoaaRise
import Derived.Test.YtljfknneijmfoaaFq20
namespace Go.Proofs.Ytljfknneijmfoaa
open Go.RowKit Go.Maps Go.WideMaps
open Go.Proofs.YtljfknneijmfoaaW.PrintWords
open PQueryAsks (S50 S74 rd_T74)

/-- All numbers of a variable. -/
def allOf (v : S) (rows : List (S × List Int)) : List Int := rows.flatMap fun r => if r.1 = v then r.2 else []

theorem allOf_snoc (v : S) (rows : List (S × List Int)) (k : Nat) (r : S × List Int) (h : rows[k]? = some r) : allOf v (rows.take (k + 1)) = allOf v (rows.take k) ++ (if r.1 = v then r.2 else []) := by
  unfold allOf
  rw [List.take_add_one, h]
  simp

theorem allOf_len {rows : List (S × List Int)} (h : sizesR rows ≤ 2000) (v : S) (j : Nat) : (allOf v (rows.take j)).length ≤ 2000 := by
  suffices hh : ((allOf v (rows.take j)).length : Int) ≤ sizesR rows by omega
  clear h
  induction rows generalizing j with
  | nil => simp [allOf, sizesR]
  | cons a q ih =>
    have h0 := sizesR_nonneg (a :: q)
    cases j with
    | zero => simpa [allOf] using h0
    | succ j =>
      have h3 := ih j
      have h4 : (allOf v ((a :: q).take (j + 1))).length = (if a.1 = v then a.2 else []).length + (allOf v (q.take j)).length := by simp [allOf]
      have h5 : (if a.1 = v then a.2 else []).length ≤ a.2.length := by split <;> simp
      unfold sizesR at h3 ⊢
      simp only [List.map_cons, List.sum_cons]
      omega

theorem mem_allOf {ns : Nat} {v : S} {rows : List (S × List Int)} {z : Int} : (z ∈ allOf v rows ∧ isSite ns z = true) ↔ z ∈ picks ns v rows := by
  rw [mem_picks]
  unfold allOf
  rw [List.mem_flatMap]
  have hs : isSite ns z = true ↔ 0 ≤ z ∧ z < (ns : Int) := by simp [isSite]
  rw [hs]
  constructor
  · rintro ⟨⟨r, hr, hz⟩, h⟩
    by_cases e : r.1 = v
    · rw [if_pos e] at hz
      exact ⟨⟨r, hr, e, hz⟩, h⟩
    · rw [if_neg e] at hz
      cases hz
  · rintro ⟨⟨r, hr, e, hz⟩, h⟩
    exact ⟨⟨r, hr, by rw [if_pos e]; exact hz⟩, h⟩

theorem get_l0 (v : S) (rows : List (S × List Int)) (hsz : sizesR rows ≤ 2000) : ∀ (m i : Nat), rows.length - i = m → i ≤ rows.length →
    ∃ r, Asc r ∧ (∀ z, z ∈ r ↔ z ∈ allOf v rows) ∧ r.length ≤ 2000 ∧ Ev (fun k => PQueryAsks.lanternref17_Answer_Get.l0 k (U v) (allOf v (rows.take i)) (i : Int) (rows.map toQ74) ([] : List S50) [] []) r := by
  obtain ⟨hn, _, _⟩ := sizesR_length hsz
  intro m
  induction m with
  | zero =>
    intro i hm hi
    have : i = rows.length := by omega
    subst this
    have hl := allOf_len hsz v rows.length
    obtain ⟨r, r1, r2, r3, r4⟩ := rise_f (allOf v (rows.take rows.length)) (by omega)
    refine ⟨r, r1, fun z => by rw [r2, List.take_length], by omega, Ev.step (f := fun k => (PQueryAsks.lanternref17_Rising.f k (allOf v (rows.take rows.length))).bind fun t => some t) (fun k => ?_) (Ev.bind (f := fun _ t => some t) r4 (Ev.now r))⟩
    show PQueryAsks.lanternref17_Answer_Get.l0 (k + 1) _ _ _ _ _ _ _ = _
    unfold PQueryAsks.lanternref17_Answer_Get.l0
    rw [if_neg (by simp)]
  | succ m ih =>
    intro i hm hi
    have hlt : i < rows.length := by omega
    obtain ⟨r, r1, r2, r3, r4⟩ := ih (i + 1) (by omega) (by omega)
    refine ⟨r, r1, r2, r3, Ev.step (fun k => ?_) r4⟩
    show PQueryAsks.lanternref17_Answer_Get.l0 (k + 1) _ _ _ _ _ _ _ = _
    have hrd : rd_T74 (rows.map toQ74) (i : Int) = toQ74 rows[i] := by simp [rd_T74, List.getD_eq_getElem?_getD, List.getElem?_eq_getElem hlt]
    have hs := allOf_snoc v rows i _ (List.getElem?_eq_getElem hlt)
    have hl := allOf_len hsz v (i + 1)
    rw [PQueryAsks.lanternref17_Answer_Get.l0]
    rw [if_pos (by simp; omega), if_pos (by omega), hrd]
    rw [show (toQ74 rows[i]).f0 = U rows[i].1 from rfl, show (toQ74 rows[i]).f1 = rows[i].2 from rfl, toList_U, toList_U]
    rw [hs] at hl ⊢
    by_cases e : rows[i].1 = v
    · rw [if_pos e] at hl ⊢
      rw [List.length_append] at hl
      rw [if_pos e, if_pos (by omega), show wrap64 ((i : Int) + 1) = ((i + 1 : Nat) : Int) by unfold wrap64; omega]
    · rw [if_neg e, if_neg e, List.append_nil, show wrap64 ((i : Int) + 1) = ((i + 1 : Nat) : Int) by unfold wrap64; omega]

theorem get_f (v : S) (rows : List (S × List Int)) (hsz : sizesR rows ≤ 2000) :
    ∃ r, Asc r ∧ (∀ z, z ∈ r ↔ z ∈ allOf v rows) ∧ r.length ≤ 2000 ∧ Ev (fun k => PQueryAsks.lanternref17_Answer_Get.f k (rows.map toQ74) ([] : List S50) [] [] (U v)) r := by
  obtain ⟨r, r1, r2, r3, r4⟩ := get_l0 v rows hsz rows.length 0 (by omega) (by omega)
  refine ⟨r, r1, r2, r3, Ev.congr (fun k => ?_) r4⟩
  rfl

theorem asc_ext {a b : List Int} (ha : Asc a) (hb : Asc b) (h : ∀ x, x ∈ a ↔ x ∈ b) : a = b := by
  have hn : ∀ {l : List Int}, Asc l → l.Nodup := fun {l} hl => by
    rw [List.nodup_iff_pairwise_ne]
    exact List.Pairwise.imp (fun {a b} hab => by omega) hl
  have hp : a.Perm b := (List.perm_ext_iff_of_nodup (hn ha) (hn hb)).2 h
  refine hp.eq_of_pairwise ?_ ha hb
  intro x y _ _ h1 h2
  omega

theorem IsNums.uniq {ns : Nat} {v : S} {rows : List (S × List Int)} {a b : List Int} (h : IsNums ns v rows a) (h' : IsNums ns v rows b) : a = b := asc_ext h.1 h'.1 fun x => (h.2 x).trans (h'.2 x).symm

theorem rdOf_map {l : List S} {i : Nat} {x : S} (h : l[i]? = some x) : rdOf ByteArray.empty (l.map U) (i : Int) = U x := by simp [rdOf, List.getD_eq_getElem?_getD, h]

theorem refPoints_l0 (e : ByteArray) (q2 : List S74) (q3 : List S50) (q4 q5 : List ByteArray) (sites : List S) (r : List Int) (hr : r.length ≤ 2000) : ∀ (m i : Nat), r.length - i = m → i ≤ r.length →
    Ev (fun k => PQueryAsks.lanternref22_Points.l0 k ((((r.take i).filter (isSite sites.length)).map (siteAt sites)).map U) r (i : Int) e (sites.map U) q2 q3 q4 q5) (((r.filter (isSite sites.length)).map (siteAt sites)).map U) := by
  intro m
  induction m with
  | zero =>
    intro i hm hi
    have : i = r.length := by omega
    subst this
    refine Ev.step (f := fun _ => some _) (fun k => ?_) (Ev.now _)
    show PQueryAsks.lanternref22_Points.l0 (k + 1) _ _ _ _ _ _ _ _ _ = _
    rw [PQueryAsks.lanternref22_Points.l0]
    rw [if_neg (by omega), List.take_length]
  | succ m ih =>
    intro i hm hi
    have hlt : i < r.length := by omega
    refine Ev.step (fun k => ?_) (ih (i + 1) (by omega) (by omega))
    show PQueryAsks.lanternref22_Points.l0 (k + 1) _ _ _ _ _ _ _ _ _ = _
    have hz : r[i]? = some r[i] := List.getElem?_eq_getElem hlt
    have ht : (r.take (i + 1)).filter (isSite sites.length) = (r.take i).filter (isSite sites.length) ++ (if isSite sites.length r[i] = true then [r[i]] else []) := by
      rw [List.take_add_one, hz, Option.toList_some, List.filter_append]
      congr 1
      rw [List.filter_cons, List.filter_nil]
    have hl : ((r.take i).filter (isSite sites.length)).length ≤ 2000 := Nat.le_trans (List.length_filter_le _ _) (by simp; omega)
    rw [PQueryAsks.lanternref22_Points.l0]
    rw [if_pos (by omega), if_pos (by omega), rd_of hz]
    rw [show wrap64 ((i : Int) + 1) = ((i + 1 : Nat) : Int) by unfold wrap64; omega]
    rw [ht]
    by_cases h0 : 0 ≤ r[i]
    · rw [if_pos h0]
      by_cases h1 : r[i] < (sites.length : Int)
      · have hs : isSite sites.length r[i] = true := by simp [isSite, h0, h1]
        obtain ⟨n, hn⟩ : ∃ n : Nat, r[i] = (n : Int) := ⟨r[i].toNat, by omega⟩
        have hnl : n < sites.length := by omega
        have hrd := rdOf_map (List.getElem?_eq_getElem hnl)
        rw [if_pos (by simp; omega), if_pos h0, if_pos (by simp; omega), if_pos hs, hn, hrd]
        rw [List.map_append, List.map_append]
        congr 2
        simp [siteAt, List.getD_eq_getElem?_getD, List.getElem?_eq_getElem hnl]
      · have hs : ¬ isSite sites.length r[i] = true := by simp [isSite, h1]
        rw [if_neg (by simp; omega), if_neg hs, List.append_nil]
    · have hs : ¬ isSite sites.length r[i] = true := by simp [isSite, h0]
      rw [if_neg h0, if_neg hs, List.append_nil]

/-- The reference's Points: the sites of the variable's numbers, ascending. -/
theorem refPoints_f (e : ByteArray) (q3 : List S50) (q4 q5 : List ByteArray) (sites : List S) (rows : List (S × List Int)) (hsz : sizesR rows ≤ 2000) (v : S) :
    ∃ zs, IsNums sites.length v rows zs ∧ Ev (fun k => PQueryAsks.lanternref22_Points.f k e (sites.map U) (rows.map toQ74) q3 q4 q5 (U v)) ((zs.map (siteAt sites)).map U) := by
  obtain ⟨r, r1, r2, r3, r4⟩ := get_f v rows hsz
  refine ⟨r.filter (isSite sites.length), ⟨List.Pairwise.filter _ r1, fun z => ?_⟩, ?_⟩
  · rw [List.mem_filter, r2, mem_allOf]
  · have h := refPoints_l0 e (rows.map toQ74) q3 q4 q5 sites r r3 r.length 0 (by omega) (by omega)
    exact Ev.congr (fun _ => rfl) (Ev.bind (f := fun k t => PQueryAsks.lanternref22_Points.l0 k [] t 0 e (sites.map U) (rows.map toQ74) q3 q4 q5) r4 h)

theorem has_ev (l : List S) (x : S) (hl : l.length ≤ 1000000) : Ev (fun k => PQueryAsks.lanternref1_Has.f k (l.map U) (U x)) (l.contains x) := by
  obtain ⟨r, hr, hx⟩ := in_l0 l x (by omega) l.length (l.length + 1) 0 (by omega) (by omega) (by omega)
  rw [List.drop_zero] at hx
  refine Ev.of (k := l.length + 1) (fun k => PQueryAsks.lanternref1_Has.mono _ _ k) ?_
  unfold PQueryAsks.lanternref1_Has.f PQueryAsks.lanternref1_in.f
  rw [show ((0 : Nat) : Int) = 0 from rfl] at hr
  rw [hr, Option.bind_some]
  congr 1
  rw [Bool.eq_iff_iff, decide_eq_true_eq, List.contains_iff_mem, ← hx]

theorem texts_l0 (l : List S) (hl : l.length ≤ 9223372036854775807) : ∀ (m i : Nat), l.length - i = m → i ≤ l.length → Ev (fun k => PQueryAsks.lanternalike_Texts.l0 k (l.map U) (l.map U) (i : Int)) true := by
  intro m
  induction m with
  | zero =>
    intro i hm hi
    have : i = l.length := by omega
    subst this
    refine Ev.step (f := fun _ => some true) (fun k => ?_) (Ev.now true)
    show PQueryAsks.lanternalike_Texts.l0 (k + 1) _ _ _ = _
    rw [PQueryAsks.lanternalike_Texts.l0]
    rw [if_neg (by simp)]
  | succ m ih =>
    intro i hm hi
    refine Ev.step (fun k => ?_) (ih (i + 1) (by omega) (by omega))
    show PQueryAsks.lanternalike_Texts.l0 (k + 1) _ _ _ = _
    rw [PQueryAsks.lanternalike_Texts.l0]
    rw [if_pos (by simp; omega), if_pos (by omega), if_pos (by simp; omega), if_pos rfl, show wrap64 ((i : Int) + 1) = ((i + 1 : Nat) : Int) by unfold wrap64; omega]

/-- Texts of two that read alike. -/
theorem texts20 {A0 : Option Addr} {c0 : Nat} {A1 : Option Addr} {c1 : Nat} {l : List S} {w : World} (h0 : StrRow w A0 l) (hc0 : l.length ≤ c0) (h1 : StrRow w A1 l) (hc1 : l.length ≤ c1) (hl : l.length ≤ 9223372036854775807) :
    Calls Try.prog 20 #[.slice A0 l.length c0, .slice A1 l.length c1] w fun e w' => e = .returned (.bool true) ∧ Below w.heap.size w w' := by
  obtain ⟨k, hk⟩ := (texts_l0 l hl l.length 0 (by omega) (by omega)).rounds
  have hf : PQueryAsks.lanternalike_Texts.f k (l.map U) (l.map U) = some true := by
    unfold PQueryAsks.lanternalike_Texts.f
    rw [if_pos rfl]
    exact hk
  have hC0 := C_of_strs h0 hl
  have hC1 := C_of_strs h1 hl
  have := PQueryAsks.lanternalike_Texts.calls k A0 c0 (l.map U) A1 c1 (l.map U) true w (by simpa using hC0) (by simpa using hc0) (by simpa using hC1) (by simpa using hc1) hf
  simp only [List.length_map] at this
  exact this.mono fun _ _ ⟨h1, h2⟩ => ⟨h1, h2.below⟩

theorem strs_of_C {w : World} {A : Option Addr} {l : List ByteArray} (h : Kd.C Kd.string w A l.length l) : StrRow w A (l.map B) := by
  intro k x hx
  rw [List.getElem?_map, Option.map_eq_some_iff] at hx
  obtain ⟨s, hs, rfl⟩ := hx
  have hk : k < l.length := (List.getElem?_eq_some_iff.1 hs).1
  obtain ⟨_, _, h3⟩ := h
  obtain ⟨ad, rfl, h4⟩ := h3 (by omega)
  obtain ⟨cs, _, hK, hc⟩ := h4 k s hs
  have hK' : cs = [.string s] := hK
  subst hK'
  have := hc 0 _ rfl
  refine ⟨ad, rfl, ?_⟩
  rw [U_B]
  have e : k * (Kd.string).sz + 0 = k := Nat.mul_one k
  rw [e] at this
  exact this

theorem ints_of_C {w : World} {A : Option Addr} {l : List Int} (h : Kd.C (Kd.int .i64) w A l.length l) : IntRow w A l := by
  intro k x hx
  have hk : k < l.length := (List.getElem?_eq_some_iff.1 hx).1
  obtain ⟨_, _, h3⟩ := h
  obtain ⟨ad, rfl, h4⟩ := h3 (by omega)
  obtain ⟨cs, _, hK, hc⟩ := h4 k x hx
  have hK' : cs = [.int .i64 x] := hK
  subst hK'
  have := hc 0 _ rfl
  refine ⟨ad, rfl, ?_⟩
  have e : k * (Kd.int .i64).sz + 0 = k := Nat.mul_one k
  rw [e] at this
  exact this

section
variable (e : S) (As : Option Addr) (cs : Nat) (Ar : Option Addr) (cr : Nat) (Ae : Option Addr) (ce : Nat) (Ah : Option Addr) (ch : Nat) (Ai : Option Addr) (ci : Nat) (rows : List (S × List Int)) (sites : List S) (es : List (S × Int × S)) (reach inits : List S) (w : World)
variable (h1 : sites.length ≤ cs ∧ StrRow w As sites ∧ sites.length ≤ 9223372036854775807) (h2 : rows.length ≤ cr ∧ SetRow w Ar rows) (h3 : es.length ≤ ce ∧ EdgeRow w Ae es ∧ es.length ≤ 9223372036854775807) (h4 : reach.length ≤ ch ∧ StrRow w Ah reach ∧ reach.length ≤ 9223372036854775807) (h5 : inits.length ≤ ci ∧ StrRow w Ai inits ∧ inits.length ≤ 9223372036854775807) (hsz : sizesR rows ≤ 2000)
include h1 h2 h3 h4 h5 hsz

theorem refPointsW (v : S) (W : World) (hB : Below w.heap.size w W) :
    Calls Try.prog 21 #[.agg (repV e As sites.length cs Ar rows.length cr (.slice Ae es.length ce) (.slice Ah reach.length ch) (.slice Ai inits.length ci)), .string (U v)] W fun ee w' => ∃ A c xs, ee = .returned (.slice A xs.length c) ∧ xs.length ≤ c ∧ xs.length ≤ 1000000 ∧ StrRow w' A xs ∧
      (∃ zs, xs = zs.map (siteAt sites) ∧ IsNums sites.length v rows zs) ∧ Below w.heap.size w w' := by
  obtain ⟨g1, g2, g3⟩ := sizesR_length hsz
  obtain ⟨zs, hz, hE⟩ := refPoints_f (U e) (es.map toQ50) (reach.map U) (inits.map U) sites rows hsz v
  obtain ⟨k, hk⟩ := hE.rounds
  have hr0_1 := C_of_strs (h1.2.1.below hB (Nat.le_refl _)) h1.2.2
  have hr0_2 := C_of_sets (h2.2.below hB (Nat.le_refl _)) (by omega) (fun r hr => by have := g2 r hr; omega)
  have hr0_3 := C_of_edgesQ (h3.2.1.below hB (Nat.le_refl _)) h3.2.2
  have hr0_4 := C_of_strs (h4.2.1.below hB (Nat.le_refl _)) h4.2.2
  have hr0_5 := C_of_strs (h5.2.1.below hB (Nat.le_refl _)) h5.2.2
  have := PQueryAsks.lanternref22_Points.calls k (U e) As cs (sites.map U) Ar cr (rows.map toQ74) Ae ce (es.map toQ50) Ah ch (reach.map U) Ai ci (inits.map U) (U v) _ W (by simpa using hr0_1) (by simpa using h1.1) (by simpa using hr0_2) (by simpa using h2.1) (by simpa using hr0_3) (by simpa using h3.1) (by simpa using hr0_4) (by simpa using h4.1) (by simpa using hr0_5) (by simpa using h5.1) hk
  simp only [List.length_map] at this
  refine this.mono ?_
  rintro ee w' ⟨vv, rfl, hR, hB'⟩
  obtain ⟨A, c, rfl, hle, hC⟩ := Kd.R_reads hR
  have hst := strs_of_C hC
  rw [List.map_map, show (B ∘ U) = id from rfl, List.map_id] at hst
  have hl := hz.len hsz
  exact ⟨A, c, zs.map (siteAt sites), by simp, by simpa using hle, by simpa using hl, hst, ⟨zs, rfl, hz⟩, hB.trans (hB'.mono hB.size)⟩

omit h1 h3 h4 h5 in
theorem get56W (v : S) (W : World) (hB : Below w.heap.size w W) :
    Calls Try.prog 56 #[.agg #[.slice Ar rows.length cr, .slice none 0 0, .slice none 0 0, .slice none 0 0], .string (U v)] W fun ee w' => ∃ A c r, ee = .returned (.slice A r.length c) ∧ r.length ≤ c ∧ r.length ≤ 2000 ∧ IntRow w' A r ∧
      Asc r ∧ (∀ z, z ∈ r ↔ z ∈ allOf v rows) ∧ Below w.heap.size w w' := by
  obtain ⟨g1, g2, g3⟩ := sizesR_length hsz
  obtain ⟨r, r1, r2, r3, r4⟩ := get_f v rows hsz
  obtain ⟨k, hk⟩ := r4.rounds
  have hr0_2 := C_of_sets (h2.2.below hB (Nat.le_refl _)) (by omega) (fun r hr => by have := g2 r hr; omega)
  have := PQueryAsks.lanternref17_Answer_Get.calls k Ar cr (rows.map toQ74) none 0 [] none 0 [] none 0 [] (U v) r W (by simpa using hr0_2) (by simpa using h2.1) ⟨rfl, by simp, fun h => absurd h (by simp)⟩ (by simp) ⟨rfl, by simp, fun h => absurd h (by simp)⟩ (by simp) ⟨rfl, by simp, fun h => absurd h (by simp)⟩ (by simp) hk
  simp only [List.length_map] at this
  refine this.mono ?_
  rintro ee w' ⟨vv, rfl, hR, hB'⟩
  obtain ⟨A, c, rfl, hle, hC⟩ := Kd.R_reads hR
  exact ⟨A, c, r, rfl, hle, r3, ints_of_C hC, r1, r2, hB.trans (hB'.mono hB.size)⟩
end
end Go.Proofs.Ytljfknneijmfoaa
