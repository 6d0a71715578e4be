import Derived.Test.YtljfknneijmfoaaGRa
import Derived.Test.YtljfknneijmfoaaGFc
import Derived.Test.YtljfknneijmfoaaGFd
namespace Go.Proofs.Ytljfknneijmfoaa
open Go.RowKit Go.Maps Go.WideMaps Go.Lib
open Go.Proofs.YtljfknneijmfoaaW.PrintWords
abbrev E3 := S × Int × S

/-- How edges lie. -/
def edgeCells (l : List E3) : List Value := l.flatMap fun e => [.string (U e.1), .int .i64 e.2.1, .string (U e.2.2)]

theorem edgeCells_snoc (l : List E3) (e : E3) : edgeCells (l ++ [e]) = edgeCells l ++ [.string (U e.1), .int .i64 e.2.1, .string (U e.2.2)] := by simp [edgeCells]

theorem edgeCells_get (l : List E3) (k : Nat) (e : E3) (h : l[k]? = some e) : (edgeCells l)[k * 3]? = some (.string (U e.1)) ∧ (edgeCells l)[k * 3 + 1]? = some (.int .i64 e.2.1) ∧ (edgeCells l)[k * 3 + 2]? = some (.string (U e.2.2)) := by
  induction l generalizing k with
  | nil => simp at h
  | cons x l ih =>
    cases k with
    | zero => simp at h; subst h; simp [edgeCells]
    | succ k =>
      have := ih k (by simpa using h)
      rw [show (k + 1) * 3 = k * 3 + 1 + 1 + 1 by omega]
      simpa [edgeCells] using this

theorem edge_of_own {w : World} {base : Nat} {A : Option Addr} {c : Nat} {l : List E3} (h : w.ownsRow base 50 3 (.slice A l.length c) l.length (edgeCells l)) : EdgeRow w A l := by
  intro k e he
  have hk := (List.getElem?_eq_some_iff.1 he).1
  obtain ⟨ad, rfl, hc⟩ := q_cells (q_of_own h) (by omega)
  obtain ⟨h1, h2, h3⟩ := edgeCells_get l k e he
  refine ⟨ad, rfl, hc _ _ h1, ?_, ?_⟩
  · have := hc _ _ h2
    rwa [← Go.Deep.add_add] at this
  · have := hc _ _ h3
    rwa [← Go.Deep.add_add] at this

theorem info50 : (Try.prog.info? 50).map (fun i => (i.zero, i.size, i.bytes)) = some (some (.agg #[.string ⟨#[]⟩, .int .i64 0, .string ⟨#[]⟩]), 3, 40) := by kernel_rfl

theorem strsC' {w : World} {A : Option Addr} {l : List ByteArray} (h : Kd.C Kd.string w A l.length l) : StrRow w A (l.map B) := by
  intro k x hx
  rw [List.getElem?_map, Option.map_eq_some_iff] at hx
  obtain ⟨s, hs, rfl⟩ := hx
  have hk : k < l.length := (List.getElem?_eq_some_iff.1 hs).1
  obtain ⟨_, _, h3⟩ := h
  obtain ⟨ad, rfl, h4⟩ := h3 (by omega)
  obtain ⟨cs, _, hK, hc⟩ := h4 k s hs
  have hK' : cs = [.string s] := hK
  subst hK'
  have := hc 0 _ rfl
  refine ⟨ad, rfl, ?_⟩
  rw [U_B]
  have e : k * (Kd.string).sz + 0 = k := Nat.mul_one k
  rw [e] at this
  exact this
end Go.Proofs.Ytljfknneijmfoaa
namespace Go.Proofs.Ytljfknneijmfoaa
open Go.RowKit Go.Maps Go.WideMaps
open Go.Proofs.YtljfknneijmfoaaW.PrintWords

noncomputable def connB (E : Es) (a b : S) : Bool := @decide (Conn E a b) (Classical.propDecidable _)
theorem connB_iff {E : Es} {a b : S} : connB E a b = true ↔ Conn E a b := by unfold connB; exact @decide_eq_true_iff _ (Classical.propDecidable _)

/-- Whom s can come to does not hinder it. -/
noncomputable def easy (E : Es) (out : List S) (s t : S) : Bool := decide (t = s) || decide (t ∈ out) || connB E t s

theorem easy_free {E : Es} {xs out r : List S} {s : S} (hX : IsNodes E xs) (hs : s ∈ xs) (hr : IsReach E [s] r) : r.all (easy E out s) = true ↔ Free E (xs.filter fun x => !decide (x ∈ out)) s := by
  rw [List.all_eq_true]
  have hnode : ∀ t, Conn E s t → t ∈ xs := fun t hc => by
    obtain ⟨n, hw⟩ := hc
    cases n with
    | zero => cases hw; exact hs
    | succ n =>
      obtain ⟨b, _, hb⟩ := hw.unsnoc
      exact (hX.2 t).2 ⟨b, .inr hb⟩
  constructor
  · intro h t ht hne hc
    obtain ⟨h1, h2⟩ := List.mem_filter.1 ht
    have h3 := h t ((reach_one_mem hr t).2 hc)
    unfold easy at h3
    rw [Bool.or_eq_true, Bool.or_eq_true, decide_eq_true_iff, decide_eq_true_iff, connB_iff] at h3
    rcases h3 with (h3 | h3) | h3
    · exact absurd h3 hne
    · simp [h3] at h2
    · exact h3
  · intro h t ht
    have hc := (reach_one_mem hr t).1 ht
    unfold easy
    rw [Bool.or_eq_true, Bool.or_eq_true, decide_eq_true_iff, decide_eq_true_iff, connB_iff]
    by_cases h1 : t = s
    · exact .inl (.inl h1)
    · by_cases h2 : t ∈ out
      · exact .inl (.inr h2)
      · exact .inr (h t (List.mem_filter.2 ⟨hnode t hc, by simpa using h2⟩) h1 hc)

section
variable (es : List (S × Int × S)) (xs out : List S) (hn : es.length ≤ 100000) (hx : xs.length ≤ 1000000) (ho : out.length ≤ 1000000)
include hn hx ho

theorem order_l2 (i : Nat) (s : S) (hs : xs[i]? = some s) (r : List S) (hr : r.length ≤ 1000000) (R : List ByteArray)
    (hyes : r.all (easy (ends es) out s) = true → Ev (fun k => PQueryCalls.lanternref22_Order.l0 k (es.map toC50) (xs.map U) ((out ++ [s]).map U)) R)
    (hnot : r.all (easy (ends es) out s) = false → Ev (fun k => PQueryCalls.lanternref22_Order.l1 k (es.map toC50) (xs.map U) (out.map U) ((i + 1 : Nat) : Int)) R) :
    ∀ (m j : Nat), r.length - j = m → j ≤ r.length → (r.take j).all (easy (ends es) out s) = true → Ev (fun k => PQueryCalls.lanternref22_Order.l2 k (es.map toC50) (xs.map U) (out.map U) (i : Int) (r.map U) true (j : Int)) R := by
  have hi := (List.getElem?_eq_some_iff.1 hs).1
  have hw : wrap64 ((i : Int) + 1) = ((i + 1 : Nat) : Int) := by unfold wrap64; omega
  intro m
  induction m with
  | zero =>
    intro j hm hj hall
    have : j = r.length := by omega
    subst this
    rw [List.take_length] at hall
    refine Ev.step (f := fun k => PQueryCalls.lanternref22_Order.j3 k (es.map toC50) (xs.map U) (out.map U) (i : Int) (r.map U) true (r.length : Int) false) (fun k => ?_) (Ev.step (fun k => ?_) (hyes hall))
    · show PQueryCalls.lanternref22_Order.l2 (k + 1) _ _ _ _ _ _ _ = _
      rw [PQueryCalls.lanternref22_Order.l2]
      rw [if_neg (by simp)]
    · show PQueryCalls.lanternref22_Order.j3 (k + 1) _ _ _ _ _ _ _ _ = _
      rw [PQueryCalls.lanternref22_Order.j3]
      rw [if_neg (by simp), if_pos rfl, if_pos (by omega), if_pos (by simp; omega), if_pos (by simp; omega), rds_of hs, List.map_append]
      rfl
  | succ m ih =>
    intro j hm hj hall
    have hlt : j < r.length := by omega
    obtain ⟨t, ht⟩ : ∃ t, r[j]? = some t := ⟨_, List.getElem?_eq_getElem hlt⟩
    have hwj : wrap64 ((j : Int) + 1) = ((j + 1 : Nat) : Int) := by unfold wrap64; omega
    have hnext : easy (ends es) out s t = true → Ev (fun k => PQueryCalls.lanternref22_Order.l2 k (es.map toC50) (xs.map U) (out.map U) (i : Int) (r.map U) true ((j + 1 : Nat) : Int)) R := fun he => by
      refine ih (j + 1) (by omega) hlt ?_
      rw [List.take_add_one, ht, Option.toList_some, List.all_append, hall]
      simp [he]
    refine Ev.step (f := fun k => PQueryCalls.lanternref22_Order.j3 k (es.map toC50) (xs.map U) (out.map U) (i : Int) (r.map U) true (j : Int) true) (fun k => ?_) ?_
    · show PQueryCalls.lanternref22_Order.l2 (k + 1) _ _ _ _ _ _ _ = _
      rw [PQueryCalls.lanternref22_Order.l2]
      rw [if_pos (by simp; omega)]
    · have e3 : ∀ k, PQueryCalls.lanternref22_Order.j3 (k + 1) (es.map toC50) (xs.map U) (out.map U) (i : Int) (r.map U) true (j : Int) true = if t = s then PQueryCalls.lanternref22_Order.l2 k (es.map toC50) (xs.map U) (out.map U) (i : Int) (r.map U) true ((j + 1 : Nat) : Int) else
          (PQueryCalls.lanternref1_Has.f k (out.map U) (U t)).bind fun b => if b = true then PQueryCalls.lanternref22_Order.l2 k (es.map toC50) (xs.map U) (out.map U) (i : Int) (r.map U) true ((j + 1 : Nat) : Int) else
            (PQueryCalls.lanternref22_Reach.f k (es.map toC50) ([t].map U)).bind fun q => (PQueryCalls.lanternref1_Has.f k q (U s)).bind fun c => PQueryCalls.lanternref22_Order.l2 k (es.map toC50) (xs.map U) (out.map U) (i : Int) (r.map U) c ((j + 1 : Nat) : Int) := fun k => by
        rw [PQueryCalls.lanternref22_Order.j3]
        rw [if_pos rfl, if_pos (by omega), if_pos (by simp; omega), if_pos (by omega), if_pos (by simp; omega), hwj, rds_of hs, rds_of ht, toList_U, toList_U]
        rfl
      by_cases hts : t = s
      · exact Ev.step (fun k => by rw [e3, if_pos hts]) (hnext (by simp [easy, hts]))
      · obtain ⟨q, q1, q2, q3⟩ := reach_f es [t] hn (by simp)
        have hq := reach_one_mem q1 s
        simp at q2
        obtain ⟨fA, hA⟩ : ∃ fA, fA = fun k => PQueryCalls.lanternref22_Order.l2 k (es.map toC50) (xs.map U) (out.map U) (i : Int) (r.map U) true ((j + 1 : Nat) : Int) := ⟨_, rfl⟩
        obtain ⟨fC, hC⟩ : ∃ fC, fC = fun k (c : Bool) => PQueryCalls.lanternref22_Order.l2 k (es.map toC50) (xs.map U) (out.map U) (i : Int) (r.map U) c ((j + 1 : Nat) : Int) := ⟨_, rfl⟩
        refine Ev.sb (f := fun k b => if b = true then fA k else (PQueryCalls.lanternref22_Reach.f k (es.map toC50) ([t].map U)).bind fun q => (PQueryCalls.lanternref1_Has.f k q (U s)).bind fun c => fC k c) (fun k => by rw [e3, if_neg hts, hA, hC]) (hasC out t (by omega)) ?_
        by_cases hto : t ∈ out
        · exact Ev.congr (f := fA) (fun k => by rw [if_pos (by simpa using hto)]) (by rw [hA]; exact hnext (by simp [easy, hto]))
        · refine Ev.congr (f := fun k => (PQueryCalls.lanternref22_Reach.f k (es.map toC50) ([t].map U)).bind fun q => (PQueryCalls.lanternref1_Has.f k q (U s)).bind fun c => fC k c) (fun k => by rw [if_neg (by simpa using hto)]) (Ev.bind (f := fun k q => (PQueryCalls.lanternref1_Has.f k q (U s)).bind fun c => fC k c) q3 (Ev.bind (f := fC) (hasC q s (by omega)) ?_))
          by_cases hc : Conn (ends es) t s
          · have hsq := hq.2 hc
            have h := hnext (by unfold easy; rw [connB_iff.2 hc]; simp)
            rw [hC]
            exact Ev.congr (fun k => by simp [hsq]) h
          · have hsq : ¬ s ∈ q := fun h => hc (hq.1 h)
            have heasy : easy (ends es) out s t = false := by
              unfold easy
              rw [Bool.eq_false_iff]
              intro h
              rw [Bool.or_eq_true, Bool.or_eq_true, decide_eq_true_iff, decide_eq_true_iff, connB_iff] at h
              rcases h with (h | h) | h
              · exact hts h
              · exact hto h
              · exact hc h
            have hall0 : r.all (easy (ends es) out s) = false := by
              rw [Bool.eq_false_iff]
              intro h
              have := List.all_eq_true.1 h t (List.mem_of_getElem? ht)
              rw [heasy] at this
              cases this
            have h := hnot hall0
            rw [hC]
            refine Ev.congr (f := fun k => PQueryCalls.lanternref22_Order.l2 k (es.map toC50) (xs.map U) (out.map U) (i : Int) (r.map U) false ((j + 1 : Nat) : Int)) (fun k => by simp [hsq]) ?_
            refine Ev.step (f := fun k => PQueryCalls.lanternref22_Order.j3 k (es.map toC50) (xs.map U) (out.map U) (i : Int) (r.map U) false ((j + 1 : Nat) : Int) false) (fun k => ?_) (Ev.step (fun k => ?_) h)
            · show PQueryCalls.lanternref22_Order.l2 (k + 1) _ _ _ _ _ _ _ = _
              rw [PQueryCalls.lanternref22_Order.l2]
              split <;> rfl
            · show PQueryCalls.lanternref22_Order.j3 (k + 1) _ _ _ _ _ _ _ _ = _
              rw [PQueryCalls.lanternref22_Order.j3]
              rw [if_neg (by simp), if_neg (by simp), hw]

theorem order_l1 (hX : IsNodes (ends es) xs) (s : S) (p : Nat) (hp : xs[p]? = some s) (hso : s ∉ out) (hfree : Free (ends es) (xs.filter fun x => !decide (x ∈ out)) s)
    (hmin : ∀ u, u ∈ xs.filter (fun x => !decide (x ∈ out)) → Free (ends es) (xs.filter fun x => !decide (x ∈ out)) u → s ≤ u) (R : List ByteArray)
    (hE : Ev (fun k => PQueryCalls.lanternref22_Order.l0 k (es.map toC50) (xs.map U) ((out ++ [s]).map U)) R) :
    ∀ (m i : Nat), p - i = m → i ≤ p → Ev (fun k => PQueryCalls.lanternref22_Order.l1 k (es.map toC50) (xs.map U) (out.map U) (i : Int)) R := by
  have hpl := (List.getElem?_eq_some_iff.1 hp).1
  intro m
  induction m with
  | zero =>
    intro i hm hi
    have : i = p := by omega
    subst this
    obtain ⟨r, r1, r2, r3⟩ := reach_f es [s] hn (by simp)
    simp at r2
    refine Ev.sb (f := fun k b => if b = true then PQueryCalls.lanternref22_Order.l1 k (es.map toC50) (xs.map U) (out.map U) (wrap64 ((i : Int) + 1)) else (PQueryCalls.lanternref22_Reach.f k (es.map toC50) ([s].map U)).bind fun t => PQueryCalls.lanternref22_Order.l2 k (es.map toC50) (xs.map U) (out.map U) (i : Int) t true 0) (fun k => ?_) (hasC out s (by omega)) ?_
    · show PQueryCalls.lanternref22_Order.l1 (k + 1) _ _ _ _ = _
      rw [PQueryCalls.lanternref22_Order.l1]
      rw [if_pos (by simp; omega), if_pos (by omega), rds_of hp]
      rfl
    · refine Ev.congr (f := fun k => (PQueryCalls.lanternref22_Reach.f k (es.map toC50) ([s].map U)).bind fun t => PQueryCalls.lanternref22_Order.l2 k (es.map toC50) (xs.map U) (out.map U) (i : Int) t true 0) (fun k => by rw [if_neg (by simpa using hso)]) (Ev.bind (f := fun k t => PQueryCalls.lanternref22_Order.l2 k (es.map toC50) (xs.map U) (out.map U) (i : Int) t true 0) r3 ?_)
      exact order_l2 es xs out hn hx ho i s hp r (by omega) R (fun _ => hE) (fun h => by rw [(easy_free hX (List.mem_of_getElem? hp) r1).2 hfree] at h; cases h) r.length 0 (by omega) (by omega) (by simp)
  | succ m ih =>
    intro i hm hi
    have hip : i < p := by omega
    obtain ⟨u, hu⟩ : ∃ u, xs[i]? = some u := ⟨_, List.getElem?_eq_getElem (by omega)⟩
    have hw : wrap64 ((i : Int) + 1) = ((i + 1 : Nat) : Int) := by unfold wrap64; omega
    have hus : u < s := ss_get hX.1 hu hp hip
    have h1 := ih (i + 1) (by omega) (by omega)
    obtain ⟨r, r1, r2, r3⟩ := reach_f es [u] hn (by simp)
    simp at r2
    refine Ev.sb (f := fun k b => if b = true then PQueryCalls.lanternref22_Order.l1 k (es.map toC50) (xs.map U) (out.map U) ((i + 1 : Nat) : Int) else (PQueryCalls.lanternref22_Reach.f k (es.map toC50) ([u].map U)).bind fun t => PQueryCalls.lanternref22_Order.l2 k (es.map toC50) (xs.map U) (out.map U) (i : Int) t true 0) (fun k => ?_) (hasC out u (by omega)) ?_
    · show PQueryCalls.lanternref22_Order.l1 (k + 1) _ _ _ _ = _
      rw [PQueryCalls.lanternref22_Order.l1]
      rw [if_pos (by simp; omega), if_pos (by omega), rds_of hu, hw]
      rfl
    · by_cases huo : u ∈ out
      · exact Ev.congr (fun k => by rw [if_pos (by simpa using huo)]) h1
      · refine Ev.congr (f := fun k => (PQueryCalls.lanternref22_Reach.f k (es.map toC50) ([u].map U)).bind fun t => PQueryCalls.lanternref22_Order.l2 k (es.map toC50) (xs.map U) (out.map U) (i : Int) t true 0) (fun k => by rw [if_neg (by simpa using huo)]) (Ev.bind (f := fun k t => PQueryCalls.lanternref22_Order.l2 k (es.map toC50) (xs.map U) (out.map U) (i : Int) t true 0) r3 ?_)
        refine order_l2 es xs out hn hx ho i u hu r (by omega) R (fun h => ?_) (fun _ => h1) r.length 0 (by omega) (by omega) (by simp)
        have hf := (easy_free hX (List.mem_of_getElem? hu) r1).1 h
        have hle := hmin u (List.mem_filter.2 ⟨List.mem_of_getElem? hu, by simpa using huo⟩) hf
        exact absurd (Std.lt_of_lt_of_le hus hle) Std.lt_irrefl
end

theorem first_min {P : S → Prop} : ∀ {l : List S}, SS l → (∃ s, s ∈ l ∧ P s) → ∃ s, s ∈ l ∧ P s ∧ ∀ u, u ∈ l → P u → s ≤ u := by
  intro l
  induction l with
  | nil => rintro _ ⟨s, hs, _⟩; cases hs
  | cons a q ih =>
    intro hS hex
    obtain ⟨h1, h2⟩ := List.pairwise_cons.1 hS
    by_cases ha : P a
    · refine ⟨a, by simp, ha, fun u hu _ => ?_⟩
      rcases List.mem_cons.1 hu with rfl | hu
      · exact Std.le_refl _
      · exact Std.le_of_lt (h1 u hu)
    · obtain ⟨s, hs, hps⟩ := hex
      have hsq : s ∈ q := by
        rcases List.mem_cons.1 hs with rfl | h
        · exact absurd hps ha
        · exact h
      obtain ⟨t, t1, t2, t3⟩ := ih h2 ⟨s, hsq, hps⟩
      refine ⟨t, List.mem_cons_of_mem _ t1, t2, fun u hu hpu => ?_⟩
      rcases List.mem_cons.1 hu with rfl | hu
      · exact absurd hpu ha
      · exact t3 u hu hpu

theorem order_l0 (es : List (S × Int × S)) (xs : List S) (hn : es.length ≤ 100000) (hx : xs.length ≤ 1000000) (hX : IsNodes (ends es) xs) : ∀ (m : Nat) (out : List S), xs.length - out.length = m → out.Nodup → (∀ x, x ∈ out → x ∈ xs) →
    ∃ rest, Ord (ends es) (xs.filter fun x => !decide (x ∈ out)) rest ∧ Ev (fun k => PQueryCalls.lanternref22_Order.l0 k (es.map toC50) (xs.map U) (out.map U)) ((out ++ rest).map U) := by
  intro m
  induction m with
  | zero =>
    intro out hm hnd hsub
    have hle := nodup_le out xs hnd hsub
    have hall : ∀ x, x ∈ xs → x ∈ out := fun x hxm => by
      apply Classical.byContradiction
      intro hno
      have := nodup_le (x :: out) xs (List.nodup_cons.2 ⟨hno, hnd⟩) fun y hy => by
        rcases List.mem_cons.1 hy with rfl | hy
        · exact hxm
        · exact hsub y hy
      simp at this
      omega
    have he : xs.filter (fun x => !decide (x ∈ out)) = [] := by
      rw [List.filter_eq_nil_iff]
      intro x hxm
      simp [hall x hxm]
    refine ⟨[], by rw [he]; exact .nil, Ev.step (f := fun _ => some (out.map U)) (fun k => ?_) (by rw [List.append_nil]; exact Ev.now _)⟩
    show PQueryCalls.lanternref22_Order.l0 (k + 1) _ _ _ = _
    rw [PQueryCalls.lanternref22_Order.l0]
    rw [if_neg (by simp; omega)]
  | succ m ih =>
    intro out hm hnd hsub
    have hle := nodup_le out xs hnd hsub
    have hne : xs.filter (fun x => !decide (x ∈ out)) ≠ [] := by
      intro h
      rw [List.filter_eq_nil_iff] at h
      have := nodup_le xs out hX.1.nodup fun x hxm => by simpa using h x hxm
      omega
    have hSf : SS (xs.filter fun x => !decide (x ∈ out)) := List.Pairwise.filter _ hX.1
    obtain ⟨s, hs, hf, hmin⟩ := first_min hSf (exists_free (ends es) _ hne)
    obtain ⟨hsx, hso⟩ := List.mem_filter.1 hs
    have hso : s ∉ out := by simpa using hso
    obtain ⟨p, hp, hps⟩ := List.mem_iff_getElem.1 hsx
    obtain ⟨rest, o1, o2⟩ := ih (out ++ [s]) (by simp; omega) (List.nodup_append.2 ⟨hnd, by simp, fun a ha b hb e => by simp at hb; subst hb; subst e; exact hso ha⟩) (fun x hxm => by
      rcases List.mem_append.1 hxm with h | h
      · exact hsub x h
      · simp at h; subst h; exact hsx)
    have hfil : xs.filter (fun x => !decide (x ∈ out ++ [s])) = (xs.filter fun x => !decide (x ∈ out)).filter fun x => !(x == s) := by
      rw [List.filter_filter]
      congr 1
      funext x
      rw [Bool.eq_iff_iff]
      simp only [List.mem_append, List.mem_singleton, Bool.not_eq_true', decide_eq_false_iff_not, Bool.and_eq_true, beq_eq_false_iff_ne]
      constructor
      · intro h
        exact ⟨fun e => h (.inr e), fun e => h (.inl e)⟩
      · rintro ⟨h1, h2⟩ (h | h)
        · exact h2 h
        · exact h1 h
    rw [hfil] at o1
    refine ⟨s :: rest, .cons hs hf hmin o1, ?_⟩
    rw [show out ++ s :: rest = (out ++ [s]) ++ rest by simp]
    have h1 := order_l1 es xs out hn hx (by omega) hX s p (by rw [List.getElem?_eq_getElem hp, hps]) hso hf hmin _ o2 p 0 (by omega) (by omega)
    refine Ev.step (fun k => ?_) h1
    show PQueryCalls.lanternref22_Order.l0 (k + 1) _ _ _ = _
    rw [PQueryCalls.lanternref22_Order.l0]
    rw [if_pos (by simp; omega)]
    rfl

/-- The reference's order. -/
theorem order_f (es : List (S × Int × S)) (hn : es.length ≤ 100000) : ∃ xs r, IsNodes (ends es) xs ∧ Ord (ends es) xs r ∧ r.length ≤ 200000 ∧ Ev (fun k => PQueryCalls.lanternref22_Order.f k (es.map toC50)) (r.map U) := by
  obtain ⟨xs, hX, hl, hE⟩ := nodes_f es hn
  obtain ⟨r, r1, r2⟩ := order_l0 es xs hn (by omega) hX xs.length [] (by simp) List.nodup_nil (fun x h => by cases h)
  rw [List.nil_append] at r2
  have he : xs.filter (fun x => !decide (x ∈ ([] : List S))) = xs := List.filter_eq_self.2 fun x _ => by simp
  rw [he] at r1
  exact ⟨xs, r, hX, r1, by rw [r1.length hX.1.nodup]; omega, Ev.congr (fun _ => rfl) (Ev.bind (f := fun k t => PQueryCalls.lanternref22_Order.l0 k (es.map toC50) t []) hE r2)⟩
end Go.Proofs.Ytljfknneijmfoaa
namespace Go.Proofs.Ytljfknneijmfoaa
open Go.RowKit Go.Maps Go.WideMaps
open Go.Proofs.YtljfknneijmfoaaW.PrintWords
open PQueryCalls (lanternref17_Edges.f lanternref17_Edges.l0 lanternref17_Edges.l1 lanternref17_Edges.l2 lanternref17_Edges.j2 lanternref17_Edges.j3)

/-- An edge without its place, as the printed texts have it. -/
def V (e : S × S) : PQueryCalls.S50 := ⟨U e.1, 0, U e.2⟩

def SP (l : List (S × S)) : Prop := l.Pairwise PL

theorem rdV_of {l : List (S × S)} {i : Nat} {z : S × S} (h : l[i]? = some z) : PQueryCalls.rd_T50 (l.map V) (i : Int) = V z := by
  simp [PQueryCalls.rd_T50, List.getD_eq_getElem?_getD, h]

def plB (a b : S × S) : Bool := if a.1 = b.1 then decide (a.2 < b.2) else decide (a.1 < b.1)

theorem plB_iff {a b : S × S} : plB a b = true ↔ PL a b := by
  unfold plB PL
  by_cases h : a.1 = b.1
  · rw [if_pos h, decide_eq_true_iff]
    constructor
    · exact fun q => .inr ⟨h, q⟩
    · rintro (q | ⟨_, q⟩)
      · rw [h] at q; exact absurd q Std.lt_irrefl
      · exact q
  · rw [if_neg h, decide_eq_true_iff]
    exact ⟨.inl, fun q => q.elim id fun q => absurd q.1 h⟩

theorem pl_or {x z : S × S} (h : ¬ PL x z) (hne : ¬ z = x) : PL z x := by
  by_cases h1 : z.1 = x.1
  · refine .inr ⟨h1, ?_⟩
    refine Std.lt_of_le_of_ne (List.not_lt.1 fun q => h (.inr ⟨h1.symm, q⟩)) fun e => hne ?_
    cases z; cases x
    simp at h1 e
    rw [h1, e]
  · exact .inl (Std.lt_of_le_of_ne (List.not_lt.1 fun q => h (.inl q)) h1)

theorem less_V (x z : S × S) : PQueryCalls.lanternref17_lessEdge.f (V x).f0 (V x).f1 (V x).f2 (V z).f0 (V z).f1 (V z).f2 = some (plB x z) := by
  unfold PQueryCalls.lanternref17_lessEdge.f plB V
  simp only [toList_U]
  by_cases h : x.1 = z.1
  · rw [if_pos h, if_pos trivial, if_pos h]
    rw [← less_U, toList_U, toList_U]
  · rw [if_neg h, if_neg h]
    rw [← less_U, toList_U, toList_U]

theorem same_V (z x : S × S) : (((V z).f0.toList == (V x).f0.toList) && (((V z).f1 == (V x).f1) && ((V z).f2.toList == (V x).f2.toList))) = (z == x) := by
  unfold V
  simp only [toList_U]
  rw [Bool.eq_iff_iff]
  cases z; cases x
  simp

theorem ed_l2 (xs acc : List (S × S)) (i at' : Nat) (x : S × S) (hi : xs[i]? = some x) (hat : at' ≤ acc.length) (hn : acc.length ≤ 1000000) (hin : i ≤ 1000000) :
    ∀ (m p : Nat) (y : List (S × S)), p = at' + m → p ≤ acc.length → y.length = acc.length + 1 → (∀ j, j < p → y[j]? = acc[j]?) → (∀ j, p ≤ j → y[j + 1]? = acc[j]?) →
    ∀ R, Ev (fun k => lanternref17_Edges.l0 k (xs.map V) ((acc.take at' ++ x :: acc.drop at').map V) ((i + 1 : Nat) : Int)) R → Ev (fun k => lanternref17_Edges.l2 k (xs.map V) (y.map V) (i : Int) (at' : Int) (p : Int)) R := by
  intro m
  induction m with
  | zero =>
    intro p y hp hpn hy h1 h2 R hR
    have hil : i < xs.length := (List.getElem?_eq_some_iff.1 hi).1
    have hpa : p = at' := by omega
    subst hpa
    have he : y.set p x = acc.take p ++ x :: acc.drop p := by
      apply List.ext_getElem?
      intro j
      rw [List.getElem?_set]
      by_cases hj : p = j
      · subst hj
        rw [if_pos rfl, if_pos (by omega), List.getElem?_append_right (by rw [List.length_take]; exact Nat.min_le_left _ _)]
        simp [Nat.min_eq_left hpn]
      · rw [if_neg hj]
        by_cases hlt : j < p
        · rw [h1 j hlt, List.getElem?_append_left (by simp; omega), List.getElem?_take_of_lt hlt]
        · obtain ⟨q, rfl⟩ : ∃ q, j = q + 1 := ⟨j - 1, by omega⟩
          rw [h2 q (by omega), List.getElem?_append_right (by simp; omega)]
          rw [List.length_take, Nat.min_eq_left hpn, show q + 1 - p = (q - p) + 1 by omega, List.getElem?_cons_succ, List.getElem?_drop]
          congr 1
          omega
    refine Ev.step (fun k => ?_) hR
    show lanternref17_Edges.l2 (k + 1) _ _ _ _ _ = _
    rw [lanternref17_Edges.l2]
    rw [if_neg (by omega), if_pos (by omega), if_pos (by simp; omega), if_pos (by omega), if_pos (by simp; omega), rdV_of hi, Int.toNat_natCast, ← List.map_set, he]
    rw [show wrap64 ((i : Int) + 1) = ((i + 1 : Nat) : Int) by unfold wrap64; omega]
  | succ m ih =>
    intro p y hp hpn hy h1 h2 R hR
    obtain ⟨q, rfl⟩ : ∃ q, p = q + 1 := ⟨p - 1, by omega⟩
    obtain ⟨z, hz⟩ : ∃ z, acc[q]? = some z := ⟨_, List.getElem?_eq_getElem (by omega)⟩
    have hyq : y[q]? = some z := by rw [h1 q (by omega), hz]
    refine Ev.step (fun k => ?_) (ih q (y.set (q + 1) z) (by omega) (by omega) (by simpa using hy) ?_ ?_ R hR)
    · show lanternref17_Edges.l2 (k + 1) _ _ _ _ _ = _
      rw [lanternref17_Edges.l2]
      have hw : wrap64 (((q + 1 : Nat) : Int) - 1) = (q : Int) := by unfold wrap64; omega
      rw [hw]
      clear hw
      rw [if_pos (by omega), if_pos (by omega), if_pos (by simp; omega), if_pos (by omega), if_pos (by simp; omega), rdV_of hyq, Int.toNat_natCast, List.map_set]
    · intro j hj
      rw [List.getElem?_set_ne (by omega), h1 j (by omega)]
    · intro j hj
      by_cases hjq : j = q
      · subst hjq
        rw [List.getElem?_set_self (by omega), hz]
      · rw [List.getElem?_set_ne (by omega), h2 j (by omega)]

/-- One more string among those that ascend. -/
def InsP (acc : List (S × S)) (x : S × S) (acc' : List (S × S)) : Prop := SP acc' ∧ (∀ z, z ∈ acc' ↔ z ∈ acc ∨ z = x) ∧ acc'.length ≤ acc.length + 1

theorem sp_ins {acc : List (S × S)} {x : S × S} {n : Nat} (h : SP acc) (h1 : ∀ j z, j < n → acc[j]? = some z → PL z x) (h2 : ∀ j z, n ≤ j → acc[j]? = some z → PL x z) : InsP acc x (acc.take n ++ x :: acc.drop n) := by
  have hta : acc.take n ++ acc.drop n = acc := List.take_append_drop n acc
  refine ⟨?_, fun z => ?_, by simp; omega⟩
  · unfold SP at *
    rw [← hta] at h
    rw [List.pairwise_append] at h ⊢
    obtain ⟨p1, p2, p3⟩ := h
    refine ⟨p1, ?_, ?_⟩
    · rw [List.pairwise_cons]
      refine ⟨fun z hz => ?_, p2⟩
      obtain ⟨j, hj⟩ := List.mem_iff_getElem?.1 hz
      rw [List.getElem?_drop] at hj
      exact h2 _ z (by omega) hj
    · intro a ha b hb
      obtain ⟨j, hj⟩ := List.mem_iff_getElem?.1 ha
      have hjn : j < n := by
        have := (List.getElem?_eq_some_iff.1 hj).1
        simp at this
        omega
      rw [List.getElem?_take_of_lt hjn] at hj
      rcases List.mem_cons.1 hb with rfl | hb
      · exact h1 j a hjn hj
      · exact p3 a (List.mem_iff_getElem?.2 ⟨j, by rw [List.getElem?_take_of_lt hjn]; exact hj⟩) b hb
  · have : z ∈ acc ↔ z ∈ acc.take n ∨ z ∈ acc.drop n := by
      rw [← List.mem_append, hta]
    rw [this, List.mem_append, List.mem_cons]
    constructor
    · rintro (h | h | h)
      · exact .inl (.inl h)
      · exact .inr h
      · exact .inl (.inr h)
    · rintro ((h | h) | h)
      · exact .inl h
      · exact .inr (.inr h)
      · exact .inr (.inl h)

theorem sp_get {acc : List (S × S)} (h : SP acc) {i j : Nat} {a b : S × S} (ha : acc[i]? = some a) (hb : acc[j]? = some b) (hij : i < j) : PL a b := by
  obtain ⟨hi, rfl⟩ := List.getElem?_eq_some_iff.1 ha
  obtain ⟨hj, rfl⟩ := List.getElem?_eq_some_iff.1 hb
  exact (List.pairwise_iff_getElem.1 h) i j hi hj hij

theorem ed_l1 (xs acc : List (S × S)) (i : Nat) (x : S × S) (hi : xs[i]? = some x) (hA : SP acc) (hn : acc.length ≤ 1000000) (hin : i ≤ 1000000) :
    ∀ (n : Nat), n ≤ acc.length → (∀ j z, n ≤ j → acc[j]? = some z → PL x z) →
    ∃ acc', InsP acc x acc' ∧ ∀ R, Ev (fun k => lanternref17_Edges.l0 k (xs.map V) (acc'.map V) ((i + 1 : Nat) : Int)) R → Ev (fun k => lanternref17_Edges.l1 k (xs.map V) (acc.map V) (i : Int) (n : Int)) R := by
  have hil : i < xs.length := (List.getElem?_eq_some_iff.1 hi).1
  have hap : (acc ++ [(([], []) : S × S)]).map V = acc.map V ++ [(⟨⟨#[]⟩, 0, ⟨#[]⟩⟩ : PQueryCalls.S50)] := by rw [List.map_append]; rfl
  intro n
  induction n with
  | zero =>
    intro hnl h2
    refine ⟨acc.take 0 ++ x :: acc.drop 0, sp_ins hA (fun j z hj => by omega) h2, fun R hR => ?_⟩
    have h3 := ed_l2 xs acc i 0 x hi (by omega) hn hin acc.length acc.length (acc ++ [([], [])]) (by omega) (Nat.le_refl _) (by simp) (fun j hj => List.getElem?_append_left hj) (fun j hj => by rw [List.getElem?_eq_none (by simp; omega), List.getElem?_eq_none hj]) R hR
    refine Ev.step (f := fun k => lanternref17_Edges.j2 k (xs.map V) (acc.map V) (i : Int) 0) (fun k => ?_) (Ev.step (f := fun k => lanternref17_Edges.j3 k (xs.map V) (acc.map V) (i : Int) 0 false) (fun k => ?_) (Ev.step (fun k => ?_) h3))
    · show lanternref17_Edges.l1 (k + 1) _ _ _ _ = _
      rw [lanternref17_Edges.l1]
      rw [if_neg (by simp)]
      rfl
    · show lanternref17_Edges.j2 (k + 1) _ _ _ _ = _
      rw [lanternref17_Edges.j2]
      rw [if_neg (by simp)]
    · show lanternref17_Edges.j3 (k + 1) _ _ _ _ _ = _
      rw [lanternref17_Edges.j3]
      rw [if_neg (by simp), if_pos (by simp; omega), Option.bind_some, hap]
      congr 1
      rw [List.length_append, List.length_singleton, List.length_map]
      unfold wrap64
      omega
  | succ n ih =>
    intro hnl h2
    obtain ⟨z, hz⟩ : ∃ z, acc[n]? = some z := ⟨_, List.getElem?_eq_getElem (by omega)⟩
    by_cases hgt : PL x z
    · obtain ⟨acc', hI, hE⟩ := ih (by omega) (fun j y hj hy => by
        by_cases e : j = n
        · subst e; rw [hz] at hy; cases hy; exact hgt
        · exact h2 j y (by omega) hy)
      refine ⟨acc', hI, fun R hR => Ev.step (fun k => ?_) (hE R hR)⟩
      show lanternref17_Edges.l1 (k + 1) _ _ _ _ = _
      rw [lanternref17_Edges.l1]
      rw [show wrap64 (((n + 1 : Nat) : Int) - 1) = (n : Int) by unfold wrap64; omega]
      rw [if_pos (by omega), if_pos (by omega), if_pos (by simp; omega), if_pos (by omega), if_pos (by simp; omega), rdV_of hz, rdV_of hi, less_V, Option.bind_some, if_pos (plB_iff.2 hgt)]
    · by_cases heq : z = x
      · subst heq
        refine ⟨acc, ⟨hA, fun y => ⟨.inl, fun h => h.elim id fun e => ?_⟩, by omega⟩, fun R hR => ?_⟩
        · rw [e]; exact List.mem_of_getElem? hz
        · refine Ev.step (f := fun k => lanternref17_Edges.j2 k (xs.map V) (acc.map V) (i : Int) ((n + 1 : Nat) : Int)) (fun k => ?_) (Ev.step (f := fun k => lanternref17_Edges.j3 k (xs.map V) (acc.map V) (i : Int) ((n + 1 : Nat) : Int) true) (fun k => ?_) (Ev.step (fun k => ?_) hR))
          · show lanternref17_Edges.l1 (k + 1) _ _ _ _ = _
            rw [lanternref17_Edges.l1]
            rw [show wrap64 (((n + 1 : Nat) : Int) - 1) = (n : Int) by unfold wrap64; omega]
            rw [if_pos (by omega), if_pos (by omega), if_pos (by simp; omega), if_pos (by omega), if_pos (by simp; omega), rdV_of hz, rdV_of hi, less_V, Option.bind_some, if_neg (fun h => (plB_iff.1 h).irrefl)]
          · show lanternref17_Edges.j2 (k + 1) _ _ _ _ = _
            rw [lanternref17_Edges.j2]
            rw [show wrap64 (((n + 1 : Nat) : Int) - 1) = (n : Int) by unfold wrap64; omega]
            rw [if_pos (by omega), if_pos (by omega), if_pos (by simp; omega), if_pos (by omega), if_pos (by simp; omega), rdV_of hz, rdV_of hi, same_V]
            simp
          · show lanternref17_Edges.j3 (k + 1) _ _ _ _ _ = _
            rw [lanternref17_Edges.j3]
            rw [if_pos rfl]
            rw [show wrap64 ((i : Int) + 1) = ((i + 1 : Nat) : Int) by unfold wrap64; omega]
      · have hlt : PL z x := pl_or hgt heq
        refine ⟨acc.take (n + 1) ++ x :: acc.drop (n + 1), sp_ins hA (fun j y hj hy => ?_) h2, fun R hR => ?_⟩
        · by_cases e : j = n
          · subst e; rw [hz] at hy; cases hy; exact hlt
          · exact (sp_get hA hy hz (by omega)).trans hlt
        · have h3 := ed_l2 xs acc i (n + 1) x hi hnl hn hin (acc.length - (n + 1)) acc.length (acc ++ [([], [])]) (by omega) (Nat.le_refl _) (by simp) (fun j hj => List.getElem?_append_left hj) (fun j hj => by rw [List.getElem?_eq_none (by simp; omega), List.getElem?_eq_none hj]) R hR
          refine Ev.step (f := fun k => lanternref17_Edges.j2 k (xs.map V) (acc.map V) (i : Int) ((n + 1 : Nat) : Int)) (fun k => ?_) (Ev.step (f := fun k => lanternref17_Edges.j3 k (xs.map V) (acc.map V) (i : Int) ((n + 1 : Nat) : Int) false) (fun k => ?_) (Ev.step (fun k => ?_) h3))
          · show lanternref17_Edges.l1 (k + 1) _ _ _ _ = _
            rw [lanternref17_Edges.l1]
            rw [show wrap64 (((n + 1 : Nat) : Int) - 1) = (n : Int) by unfold wrap64; omega]
            rw [if_pos (by omega), if_pos (by omega), if_pos (by simp; omega), if_pos (by omega), if_pos (by simp; omega), rdV_of hz, rdV_of hi, less_V, Option.bind_some, if_neg (fun h => hgt (plB_iff.1 h))]
          · show lanternref17_Edges.j2 (k + 1) _ _ _ _ = _
            rw [lanternref17_Edges.j2]
            rw [show wrap64 (((n + 1 : Nat) : Int) - 1) = (n : Int) by unfold wrap64; omega]
            rw [if_pos (by omega), if_pos (by omega), if_pos (by simp; omega), if_pos (by omega), if_pos (by simp; omega), rdV_of hz, rdV_of hi, same_V, show (z == x) = false by simpa using heq]
          · show lanternref17_Edges.j3 (k + 1) _ _ _ _ _ = _
            rw [lanternref17_Edges.j3]
            rw [if_neg (by simp), if_pos (by simp; omega), Option.bind_some, hap]
            congr 1
            rw [List.length_append, List.length_singleton, List.length_map]
            unfold wrap64
            omega

theorem ed_l0 (xs : List (S × S)) (hx : xs.length ≤ 1000000) : ∀ (m i : Nat) (acc : List (S × S)), xs.length - i = m → i ≤ xs.length → SP acc → acc.length ≤ i →
    ∃ r, SP r ∧ (∀ z, z ∈ r ↔ z ∈ acc ∨ z ∈ xs.drop i) ∧ r.length ≤ xs.length ∧ Ev (fun k => lanternref17_Edges.l0 k (xs.map V) (acc.map V) (i : Int)) (r.map V) := by
  intro m
  induction m with
  | zero =>
    intro i acc hm hi hA hl
    have : i = xs.length := by omega
    subst this
    refine ⟨acc, hA, fun z => by simp, hl, Ev.step (f := fun _ => some (acc.map V)) (fun k => ?_) (Ev.now _)⟩
    show lanternref17_Edges.l0 (k + 1) _ _ _ = _
    rw [lanternref17_Edges.l0]
    rw [if_neg (by simp)]
  | succ m ih =>
    intro i acc hm hi hA hl
    have hlt : i < xs.length := by omega
    obtain ⟨acc', hI, hE⟩ := ed_l1 xs acc i xs[i] (List.getElem?_eq_getElem hlt) hA (by omega) (by omega) acc.length (Nat.le_refl _) (fun j z hj hz => by rw [List.getElem?_eq_none hj] at hz; cases hz)
    obtain ⟨r, r1, r2, r3, r4⟩ := ih (i + 1) acc' (by omega) (by omega) hI.1 (by have := hI.2.2; omega)
    refine ⟨r, r1, fun z => ?_, r3, Ev.step (fun k => ?_) (hE (r.map V) r4)⟩
    · rw [r2, hI.2.1, List.drop_eq_getElem_cons hlt, List.mem_cons, or_assoc]
    · show lanternref17_Edges.l0 (k + 1) _ _ _ = _
      rw [lanternref17_Edges.l0]
      rw [if_pos (by simp; omega), List.length_map]

/-- Sorted: the members, ascending, each once. -/
theorem ed_f (xs : List (S × S)) (hx : xs.length ≤ 1000000) : ∃ r, (SP r ∧ ∀ z, z ∈ r ↔ z ∈ xs) ∧ r.length ≤ xs.length ∧ Ev (fun k => lanternref17_Edges.f k (xs.map V)) (r.map V) := by
  obtain ⟨r, r1, r2, r3, r4⟩ := ed_l0 xs hx xs.length 0 [] (by omega) (by omega) List.Pairwise.nil (by simp)
  exact ⟨r, ⟨r1, fun z => by rw [r2]; simp⟩, r3, Ev.congr (fun _ => rfl) r4⟩

theorem C_of_edgesE {w : World} {A : Option Addr} {es : List (S × Int × S)} (h : EdgeRow w A es) (hn : es.length ≤ 9223372036854775807) : Kd.C PQueryCalls.k50 w A es.length (es.map toC50) := by
  refine ⟨by simp, by omega, fun h0 => ?_⟩
  obtain ⟨ad, rfl, _⟩ := h 0 _ (List.getElem?_eq_getElem h0)
  refine ⟨ad, rfl, fun j p hp => ?_⟩
  rw [List.getElem?_map] at hp
  obtain ⟨e, he, rfl⟩ := Option.map_eq_some_iff.1 hp
  obtain ⟨ad', ea, c0, c1, c2⟩ := h j e he
  cases ea
  refine ⟨_, rfl, PQueryCalls.k50_mk w _, fun i u hu => ?_⟩
  show w.cell? (ad.add (j * 3 + i)) = some u
  match i, hu with
  | 0, hu => cases hu; exact c0
  | 1, hu => cases hu; rw [add_field _ _ 1 (by omega)]; exact c1
  | 2, hu => cases hu; rw [add_field _ _ 2 (by omega)]; exact c2

theorem edges_of_CE {w : World} {A : Option Addr} {l : List (S × Int × S)} (h : Kd.C PQueryCalls.k50 w A (l.map toC50).length (l.map toC50)) : EdgeRow w A l := by
  intro k e he
  have hk : k < l.length := (List.getElem?_eq_some_iff.1 he).1
  obtain ⟨ad, rfl, h0, h1, h2⟩ := PQueryCalls.at_T50 h (k : Int) (by omega) (by simp; omega)
  rw [rdC l he] at h0 h1 h2
  exact ⟨ad, rfl, h0, h1, h2⟩

/-- An edge without its place, as it lies. -/
def tri (e : S × S) : S × Int × S := (e.1, 0, e.2)

theorem ends_tri (l : List (S × S)) : ends (l.map tri) = l := by
  unfold ends tri
  rw [List.map_map]
  exact List.map_id'' (fun _ => rfl) l

theorem edges80 {A : Option Addr} {c : Nat} {ps : List (S × S)} {w : World} (h : EdgeRow w A (ps.map tri)) (hc : ps.length ≤ c) (hn : ps.length ≤ 100000) :
    Calls Try.prog 80 #[.slice A ps.length c] w fun e w' => ∃ A' c' r, e = .returned (.slice A' r.length c') ∧ r.length ≤ c' ∧ r.length ≤ ps.length ∧ IsPairs ps r ∧ EdgeRow w' A' (r.map tri) ∧ Below w.heap.size w w' := by
  obtain ⟨r, hres, hl, hE⟩ := ed_f ps (by omega)
  obtain ⟨k, hk⟩ := hE.rounds
  have hC := C_of_edgesE h (by simp; omega)
  have hm : ∀ l : List (S × S), (l.map tri).map toC50 = l.map V := fun l => by rw [List.map_map]; rfl
  rw [hm] at hC
  have := PQueryCalls.lanternref17_Edges.calls k A c (ps.map V) (r.map V) w (by simpa using hC) (by simpa using hc) hk
  simp only [List.length_map] at this
  refine this.mono ?_
  rintro ee w' ⟨vv, rfl, hR, hB⟩
  obtain ⟨A', c', rfl, hle, hCr⟩ := Kd.R_reads hR
  have hst : EdgeRow w' A' (r.map tri) := edges_of_CE (by rw [hm]; exact hCr)
  exact ⟨A', c', r, by simp, by simpa using hle, hl, hres, hst, hB⟩
end Go.Proofs.Ytljfknneijmfoaa
namespace Go.Proofs.Ytljfknneijmfoaa
open Go.RowKit Go.Maps Go.WideMaps Go.Lib
open Go.Proofs.YtljfknneijmfoaaW.PrintWords (q_of_own q_slice q_cells add_at)

theorem U_append' (a b : S) : U a ++ U b = U (a ++ b) := by
  apply B_inj
  rw [B_append']
  rfl

theorem text_bytes (a s t : S) : (((((U a ++ (⟨#[34]⟩ : ByteArray)) ++ U s) ++ (⟨#[34, 32, 45, 62, 32, 34]⟩ : ByteArray)) ++ U t) ++ (⟨#[34, 59, 10]⟩ : ByteArray)) = U (a ++ lineB s t) := by
  apply B_inj
  rw [B_append', B_append', B_append', B_append', B_append', B_U, B_U, B_U, B_U]
  unfold lineB
  simp only [List.append_assoc]
  rfl

set_option maxRecDepth 100000 in
set_option maxHeartbeats 4000000 in
/-- The reference's text of a graph. -/
theorem refDot49 (A : Option Addr) (cap : Nat) (es : List (S × Int × S)) (w : World) (hE : EdgeRow w A es) (hn : es.length ≤ 1000) (hs : ∀ e ∈ es, e.1.length ≤ 1000 ∧ e.2.2.length ≤ 1000) :
    Calls Try.prog 49 #[.slice A es.length cap] w fun e w' => ∃ x, e = .returned (.string (U x)) ∧ IsDot (ends es) x ∧ x.length ≤ 10000000000000 ∧ Below w.heap.size w w' := by
  obtain ⟨i50, hi5, hz50, hz51, hz52⟩ := info_parts info50
  have HE := Lib.hid hE
  have HS := Lib.hid hs
  clear hE hs
  go_enter Try.func49, Try.ntmps49
  go_wp2
  go_loopw [3, 4] (fun s3 i wr => ∃ (k : Nat) (A3 : Option Addr) (c3 : Nat), k ≤ es.length ∧ i = .int .i64 k ∧ s3 = .slice A3 k c3 ∧ wr.ownsRow w.heap.size 50 3 (.slice A3 k c3) k (edgeCells (((ends es).take k).map tri)) ∧ Below w.heap.size w wr) (fun _ i _ => es.length - (intOf i).toNat)
  case atStart => exact ⟨0, none, 0, Nat.zero_le _, rfl, rfl, by simpa [edgeCells] using World.ownsRow_nil w w.heap.size 50 3, Below.refl _ _⟩
  case round =>
    obtain ⟨k, A3, c3, hk, rfl, rfl, hown, hB⟩ := hrel
    have HOWN := Lib.hid hown
    have HB := Lib.hid hB
    clear hown hB
    by_cases hlt : k < es.length
    · obtain ⟨e, he⟩ : ∃ e, es[k]? = some e := ⟨_, List.getElem?_eq_getElem hlt⟩
      obtain ⟨ae, ea, e0, e1, e2⟩ := HE.out.below HB.out (Nat.le_refl _) k e he
      subst ea
      have hsn : ((ends es).take (k + 1)).map tri = ((ends es).take k).map tri ++ [(e.1, (0 : Int), e.2.2)] := by
        unfold ends
        rw [List.take_add_one, List.getElem?_map, he, List.map_append]
        rfl
      have HSN := Lib.hid hsn
      have hkb : k ≤ 1000000 := by omega
      have i1 : (0 : Int) ≤ (k : Int) := by omega
      have i2 : (k : Int) < (es.length : Int) := by omega
      have zz := HB.out.size
      have hne0 : (Value.slice A3 k c3).ownBlock ≠ some (ae.add (k * 3)).block := by
        intro h
        have h1 := (HOWN.out.lt _ h).1
        obtain ⟨_, ea, g0, _, _⟩ := HE.out k e he
        cases ea
        have h2 := World.block_lt_of_cell? _ _ g0
        omega
      have hwa : (ae.add (k * 3)).block < wr.heap.size := World.block_lt_of_cell? _ _ e0
      have HNE := Lib.hid hne0
      clear hsn he e1 hne0
      go_upto_region 5 with (fail)
      go_region_held3 (fun w' => w'.cell? (ae.add (k * 3)) = some (.string (U e.1)) ∧ w'.cell? ⟨(ae.add (k * 3)).block, (ae.add (k * 3)).off + 2, none⟩ = some (.string (U e.2.2)))
        (first
          | (go_split_ands
             refine ⟨by go_keep, by go_keep⟩)
          | (go_split_ands
             refine ⟨?_, ?_⟩
             · (rw [hgrow.cell_far (ae.add (k * 3)) (by simp; omega) (Ne.symm HNE.out)]; assumption)
             · (rw [hgrow.cell_far ⟨(ae.add (k * 3)).block, (ae.add (k * 3)).off + 2, none⟩ (by simp; omega) (Ne.symm HNE.out)]; assumption)))
        ((refine step_append_lies _ (by rfl) _ _ _ (by rfl) w.heap.size 50 i50 _ 3 40 Try.underlying24 hi5 hz50 hz51 hz52 rfl (by omega) (.slice A3 k c3) _ _ (by rfl) ((HOWN.out.alloc _).drew)
            ⟨wr.heap.size, 0, none⟩ 1 1 [.string (U e.1), .int .i64 0, .string (U e.2.2)] (by rfl) (by rfl) (World.news_of_block (cs := #[.string (U e.1), .int .i64 0, .string (U e.2.2)]) (t := 50) (fr := (0, 0)) (heap_alloc_new wr _)) (by simp [Value.oneCell'])
            (by omega) (by unfold maxLen; omega) (by omega) (by simp; omega) (wr.heap.size + 1) (by simp) ?_; intro gg cap' w3 hown3 hgrow hat hlt3))
      all_goals
        clear e0 e2
        go_wp2
        go_roundw
        case measure => simp [intOf]; omega
        case rel =>
          refine ⟨k + 1, some ⟨gg, 0, none⟩, cap', hlt, by go_num, rfl, ?_, ?_⟩
          · rw [HSN.out, edgeCells_snoc]
            exact hown3
          · exact ((HB.out.alloc HB.out.size _).drew).grown hgrow (by simp; omega) (fun q hq => (HOWN.out.lt q hq).1)
    · have hke : k = es.length := by omega
      subst hke
      have hlen : (ends es).length = es.length := by unfold ends; rw [List.length_map]
      have hlt3 : ((ends es).map tri).length = es.length := by rw [List.length_map, hlen]
      have hown := HOWN.out
      rw [List.take_of_length_le (by omega)] at hown
      rw [← hlt3] at hown
      have hEr := edge_of_own hown
      have hle3 : es.length ≤ c3 := by
        obtain ⟨_, _, he, hle⟩ := q_slice (q_of_own HOWN.out)
        injection he with _ _ he
        omega
      have h80 := edges80 (c := c3) hEr (by omega) (by omega)
      rw [hlen] at h80
      have H80 := Lib.hid h80
      clear hown hEr h80 hlt3 hlen
      go_upto_region 8 with (go_at_call 80; refine H80.out.mono ?_; rintro ee w2 ⟨A4, c4, R, rfl, hle4, hl4, hP, hR4, hB4⟩; have HLE4 := Lib.hid hle4; have HP := Lib.hid hP; have HR4 := Lib.hid hR4; have HB4 := Lib.hid (HB.out.trans (hB4.mono HB.out.size)); clear hle4 hP hR4 hB4)
      go_wp2
      go_loopw [5, 6] (fun s5 i wr => ∃ (k : Nat) (acc : S), k ≤ R.length ∧ i = .int .i64 k ∧ s5 = .string (U acc) ∧ acc = headB ++ ((R.take k).flatMap fun e => lineB e.1 e.2) ∧ acc.length ≤ room 0 k ∧ Below w2.heap.size w2 wr) (fun _ i _ => R.length - (intOf i).toNat)
      case atStart => exact ⟨0, headB, Nat.zero_le _, rfl, rfl, by simp, by decide, Below.refl _ _⟩
      case round =>
        obtain ⟨k, acc, hk, rfl, rfl, hacc, hal, hB⟩ := hrel
        have HACC := Lib.hid hacc
        have HAL := Lib.hid hal
        have hroom := room_le hal (by omega) (by omega)
        have HB5 := Lib.hid hB
        clear hacc hal hB
        have hsz : (U acc).size ≤ 1000000000000 := by rw [size_U]; exact hroom
        by_cases hlt : k < R.length
        · obtain ⟨e, he⟩ : ∃ e, R[k]? = some e := ⟨_, List.getElem?_eq_getElem hlt⟩
          obtain ⟨ae, ea, e0, e1, e2⟩ := HR4.out.below HB5.out (Nat.le_refl _) k (tri e) (by rw [List.getElem?_map, he]; rfl)
          subst ea
          have e0 : wr.cell? (ae.add (k * 3)) = some (.string (U e.1)) := e0
          have e2 : wr.cell? ⟨(ae.add (k * 3)).block, (ae.add (k * 3)).off + 2, none⟩ = some (.string (U e.2)) := e2
          obtain ⟨x, hx, q⟩ := List.mem_map.1 ((HP.out.2 e).1 (List.mem_of_getElem? he))
          have hxs := HS.out x hx
          have hs1 : (U e.1).size ≤ 1000 := by rw [size_U, ← q]; exact hxs.1
          have ht1 : (U e.2).size ≤ 1000 := by rw [size_U, ← q]; exact hxs.2
          have hll : (lineB e.1 e.2).length ≤ 2100 := by
            rw [size_U] at hs1 ht1
            rw [lineB_len]
            omega
          have HT := Lib.hid (text_bytes acc e.1 e.2)
          have HEE := Lib.hid he
          have hkb : k ≤ 1000000 := by omega
          have i1 : (0 : Int) ≤ (k : Int) := by omega
          have i2 : (k : Int) < (R.length : Int) := by omega
          have g1 : ¬ 9223372036854775807 < (U acc).size + 1 := by omega
          have g2 : ¬ 9223372036854775807 < (U acc ++ (⟨#[34]⟩ : ByteArray)).size + (U e.1).size := by
            rw [ByteArray.size_append, show (⟨#[34]⟩ : ByteArray).size = 1 from rfl]
            omega
          have g3 : ¬ 9223372036854775807 < ((U acc ++ (⟨#[34]⟩ : ByteArray)) ++ U e.1).size + 6 := by
            rw [ByteArray.size_append, ByteArray.size_append, show (⟨#[34]⟩ : ByteArray).size = 1 from rfl]
            omega
          have g4 : ¬ 9223372036854775807 < (((U acc ++ (⟨#[34]⟩ : ByteArray)) ++ U e.1) ++ (⟨#[34, 32, 45, 62, 32, 34]⟩ : ByteArray)).size + (U e.2).size := by
            rw [ByteArray.size_append, ByteArray.size_append, ByteArray.size_append, show (⟨#[34]⟩ : ByteArray).size = 1 from rfl, show (⟨#[34, 32, 45, 62, 32, 34]⟩ : ByteArray).size = 6 from rfl]
            omega
          have g5 : ¬ 9223372036854775807 < ((((U acc ++ (⟨#[34]⟩ : ByteArray)) ++ U e.1) ++ (⟨#[34, 32, 45, 62, 32, 34]⟩ : ByteArray)) ++ U e.2).size + 3 := by
            rw [ByteArray.size_append, ByteArray.size_append, ByteArray.size_append, ByteArray.size_append, show (⟨#[34]⟩ : ByteArray).size = 1 from rfl, show (⟨#[34, 32, 45, 62, 32, 34]⟩ : ByteArray).size = 6 from rfl]
            omega
          have g2' : ¬ 9223372036854775807 < (U acc).size + 1 + (U e.1).size := by omega
          have g3' : ¬ 9223372036854775807 < (U acc).size + 1 + (U e.1).size + 6 := by omega
          have g4' : ¬ 9223372036854775807 < (U acc).size + 1 + (U e.1).size + 6 + (U e.2).size := by omega
          have g5' : ¬ 9223372036854775807 < (U acc).size + 1 + (U e.1).size + 6 + (U e.2).size + 3 := by omega
          clear e1 hx q hxs he
          go_upto_region 11 with (fail)
          have hcur := (Below.refl wr.heap.size wr).drew
          have m1 := World.block_lt_of_cell? _ _ e0
          have m2 := World.block_lt_of_cell? _ _ e2
          have HK := Lib.hid (fun w' (h : Below wr.heap.size wr w') => (⟨h, (h.cell m1).trans e0, (h.cell m2).trans e2⟩ : Below wr.heap.size wr w' ∧ w'.cell? _ = some (.string (U e.1)) ∧ w'.cell? _ = some (.string (U e.2))))
          clear m1 m2
          go_region_held3 (fun w' => Below wr.heap.size wr w' ∧ w'.cell? (ae.add (k * 3)) = some (.string (U e.1)) ∧ w'.cell? ⟨(ae.add (k * 3)).block, (ae.add (k * 3)).off + 2, none⟩ = some (.string (U e.2)))
            (exact HK.out _ hcur)
            (fail)
          all_goals
            go_wp2
            rw [HT.out]
            go_roundw
            case measure => simp [intOf]; omega
            case rel =>
              refine ⟨k + 1, acc ++ lineB e.1 e.2, hlt, by go_num, rfl, ?_, ?_, HB5.out.trans (hcur.mono HB5.out.size)⟩
              · rw [HACC.out, List.take_add_one, HEE.out]
                simp
              · rw [List.length_append]
                exact room_next HAL.out hll
        · have hke : k = R.length := by omega
          subst hke
          go_wp2
          go_ret
          have hacc := HACC.out
          rw [List.take_length] at hacc
          refine ⟨acc ++ footB, ?_, ⟨R, HP.out, by rw [hacc]⟩, by simp [footB]; omega, HB4.out.trans (HB5.out.mono HB4.out.size)⟩
          show Ending.returned (.string (U acc ++ _)) = _
          rw [show U acc ++ (⟨#[125, 10]⟩ : ByteArray) = U (acc ++ footB) from U_append' acc footB]
end Go.Proofs.Ytljfknneijmfoaa
namespace Go.Proofs.Ytljfknneijmfoaa
open Go.RowKit Go.Maps Go.WideMaps
open Go.Proofs.YtljfknneijmfoaaW.PrintWords
open PQueryCalls

theorem total_m0 (l : List S) (hl : l.length ≤ 9223372036854775807) (hs : ∀ s ∈ l, s.length ≤ 9223372036854775807) : ∀ (m k i : Nat) (n : Int), l.length - i = m → i ≤ l.length → m + 4 < k → 0 ≤ n → n ≤ 9223372036854775807 →
    ∃ r, lanternalike_Total.l0 k (l.map U) 100 n (i : Int) = some r ∧ 0 ≤ r ∧ r ≤ 9223372036854775807 ∧ (r ≤ 100 → r = n + sizes (l.drop i)) := by
  intro m
  induction m with
  | zero =>
    intro k i n hm hi hk h0 h1
    obtain ⟨k, rfl⟩ : ∃ k', k = k' + 1 := ⟨k - 1, by omega⟩
    have : i = l.length := by omega
    subst this
    refine ⟨n, ?_, h0, h1, fun _ => by simp [sizes]⟩
    unfold lanternalike_Total.l0
    rw [if_neg (by simp)]
  | succ m ih =>
    intro k i n hm hi hk h0 h1
    obtain ⟨k, rfl⟩ : ∃ k', k = k' + 1 := ⟨k - 1, by omega⟩
    have hlt : i < l.length := by omega
    have hrd : rdOf ByteArray.empty (l.map U) (i : Int) = U l[i] := by simp [rdOf, List.getD_eq_getElem?_getD, List.getElem?_eq_getElem hlt]
    have hsz := hs l[i] (List.getElem_mem hlt)
    unfold lanternalike_Total.l0
    rw [if_pos (by simp; omega)]
    by_cases c : n ≤ 100
    · rw [if_pos c, if_pos (by omega), hrd, size_U]
      obtain ⟨t, ht, t0, t1, t2⟩ := sum_any k [(l[i].length : Int), 1] (by simp; omega) (by simp) n (by simp; omega) h0 h1
      rw [ht, Option.bind_some]
      rw [show wrap64 ((i : Int) + 1) = ((i + 1 : Nat) : Int) by unfold wrap64; omega]
      obtain ⟨r, hr, r0, r1, r2⟩ := ih k (i + 1) t (by omega) (by omega) (by omega) t0 t1
      refine ⟨r, hr, r0, r1, fun h => ?_⟩
      have h2 := r2 h
      have hnn : 0 ≤ sizes (l.drop (i + 1)) := by
        unfold sizes
        generalize l.drop (i + 1) = q
        induction q with
        | nil => simp
        | cons a q ih => simp; omega
      have h3 := t2 (by omega)
      simp at h3
      rw [List.drop_eq_getElem_cons hlt]
      unfold sizes at h2 ⊢
      rw [List.map_cons, List.sum_cons]
      omega
    · rw [if_neg c]
      exact ⟨n, rfl, h0, h1, fun h => absurd h c⟩

theorem sizes_length1 {l : List S} (h : sizes l ≤ 100) : l.length ≤ 100 ∧ ∀ s ∈ l, s.length ≤ 100 := by
  suffices hh : (l.length : Int) ≤ sizes l ∧ ∀ s ∈ l, (s.length : Int) ≤ sizes l by
    exact ⟨by omega, fun s hs => by have := hh.2 s hs; omega⟩
  clear h
  unfold sizes
  induction l with
  | nil => simp
  | cons a q ih =>
    obtain ⟨i1, i2⟩ := ih
    have : 0 ≤ (q.map fun s => (s.length : Int) + 1).sum := sizes_nonneg q
    refine ⟨by simp only [List.length_cons, List.map_cons, List.sum_cons]; omega, fun s hs => ?_⟩
    simp only [List.map_cons, List.sum_cons]
    rcases List.mem_cons.1 hs with rfl | hs
    · omega
    · have := i2 s hs
      omega

/-- alike.Total: how much there is. -/
theorem total42z {A : Option Addr} {c : Nat} {l : List S} (h1 : l.length ≤ c) (h2 : c ≤ maxLen) (h4 : ∀ s ∈ l, s.length ≤ maxLen) :
    ∃ z, (z ≤ 100 → l.length ≤ 100 ∧ ∀ s ∈ l, s.length ≤ 100) ∧ ∀ w, StrRow w A l → Calls Try.prog 42 #[.slice A l.length c, .int .i64 100] w fun ee w' => ee = .returned (.int .i64 z) ∧ Below w.heap.size w w' := by
  unfold maxLen at *
  obtain ⟨t2, e2, a2, b2, c2⟩ := total_m0 l (by omega) (fun s hs => h4 s hs) l.length (l.length + 20) 0 0 (by omega) (by omega) (by omega) (by omega) (by omega)
  refine ⟨t2, fun hz => ?_, fun w h3 => ?_⟩
  · have h5 := c2 hz
    rw [List.drop_zero] at h5
    exact sizes_length1 (by omega)
  · have hr := C_of_strs h3 (by omega)
    have := lanternalike_Total.calls (l.length + 20) A c (l.map U) 100 t2 w (by simpa using hr) (by simpa using h1) (by unfold lanternalike_Total.f; exact e2)
    simpa only [List.length_map] using this

section
variable {A : Option Addr} {c : Nat} {es : List (S × Int × S)} {w : World} (h : EdgeRow w A es) (hc : es.length ≤ c) (hn : es.length ≤ 100000)
include h hc hn

theorem refNodes44 : Calls Try.prog 44 #[.slice A es.length c] w fun e w' => ∃ A' c' r, e = .returned (.slice A' r.length c') ∧ r.length ≤ c' ∧ r.length ≤ 200000 ∧ IsNodes (ends es) r ∧ StrRow w' A' r ∧ Below w.heap.size w w' := by
  obtain ⟨r, hres, hl, hE⟩ := nodes_f es hn
  obtain ⟨k, hk⟩ := hE.rounds
  have hC := C_of_edgesE h (by omega)
  have := PQueryCalls.lanternref22_Nodes.calls k A c (es.map toC50) (r.map U) w (by simpa using hC) (by simpa using hc) hk
  simp only [List.length_map] at this
  refine this.mono ?_
  rintro ee w' ⟨vv, rfl, hR, hB⟩
  obtain ⟨A', c', rfl, hle, hCr⟩ := Kd.R_reads hR
  have hst := strsC' hCr
  rw [List.map_map, show (B ∘ U) = id from rfl, List.map_id] at hst
  exact ⟨A', c', r, by simp, by simpa using hle, by omega, hres, hst, hB⟩

theorem refReach45 {A1 : Option Addr} {c1 : Nat} {src : List S} (h1 : StrRow w A1 src) (hc1 : src.length ≤ c1) (hn1 : src.length ≤ 100000) :
    Calls Try.prog 45 #[.slice A es.length c, .slice A1 src.length c1] w fun e w' => ∃ A' c' r, e = .returned (.slice A' r.length c') ∧ r.length ≤ c' ∧ r.length ≤ 200000 ∧ IsReach (ends es) src r ∧ StrRow w' A' r ∧ Below w.heap.size w w' := by
  obtain ⟨r, hres, hl, hE⟩ := reach_f es src hn hn1
  obtain ⟨k, hk⟩ := hE.rounds
  have hC := C_of_edgesE h (by omega)
  have hC1 := C_of_strs h1 (by omega)
  have := PQueryCalls.lanternref22_Reach.calls k A c (es.map toC50) A1 c1 (src.map U) (r.map U) w (by simpa using hC) (by simpa using hc) (by simpa using hC1) (by simpa using hc1) hk
  simp only [List.length_map] at this
  refine this.mono ?_
  rintro ee w' ⟨vv, rfl, hR, hB⟩
  obtain ⟨A', c', rfl, hle, hCr⟩ := Kd.R_reads hR
  have hst := strsC' hCr
  rw [List.map_map, show (B ∘ U) = id from rfl, List.map_id] at hst
  exact ⟨A', c', r, by simp, by simpa using hle, by omega, hres, hst, hB⟩

theorem refOrder47 : Calls Try.prog 47 #[.slice A es.length c] w fun e w' => ∃ A' c' r xs, e = .returned (.slice A' r.length c') ∧ r.length ≤ c' ∧ r.length ≤ 200000 ∧ IsNodes (ends es) xs ∧ Ord (ends es) xs r ∧ StrRow w' A' r ∧ Below w.heap.size w w' := by
  obtain ⟨xs, r, hX, hO, hl, hE⟩ := order_f es hn
  obtain ⟨k, hk⟩ := hE.rounds
  have hC := C_of_edgesE h (by omega)
  have := PQueryCalls.lanternref22_Order.calls k A c (es.map toC50) (r.map U) w (by simpa using hC) (by simpa using hc) hk
  simp only [List.length_map] at this
  refine this.mono ?_
  rintro ee w' ⟨vv, rfl, hR, hB⟩
  obtain ⟨A', c', rfl, hle, hCr⟩ := Kd.R_reads hR
  have hst := strsC' hCr
  rw [List.map_map, show (B ∘ U) = id from rfl, List.map_id] at hst
  exact ⟨A', c', r, xs, by simp, by simpa using hle, hl, hX, hO, hst, hB⟩

omit h hc hn in
theorem rowsC {w : World} {A : Option Addr} {l : List (List S)} (h : Kd.C (Kd.slice 9 Kd.string) w A l.length (l.map (·.map U))) : RowsRow w A l := by
  intro k g hg
  have hk : k < l.length := (List.getElem?_eq_some_iff.1 hg).1
  obtain ⟨_, _, h3⟩ := h
  obtain ⟨ad, rfl, h4⟩ := h3 (by omega)
  obtain ⟨cs, _, hK, hc⟩ := h4 k (g.map U) (by rw [List.getElem?_map, hg]; rfl)
  obtain ⟨Ai, ci, rfl, hle, hCi⟩ := hK
  have hst := strsC' hCi
  rw [List.map_map, show (B ∘ U) = id from rfl, List.map_id] at hst
  have := hc 0 _ rfl
  have e : k * (Kd.slice 9 Kd.string).sz + 0 = k := Nat.mul_one k
  rw [e, List.length_map] at this
  exact ⟨ad, Ai, ci, rfl, this, by simpa using hle, hst⟩

theorem refRings43 : Calls Try.prog 43 #[.slice A es.length c] w fun e w' => ∃ A' c' gs, e = .returned (.slice A' gs.length c') ∧ gs.length ≤ c' ∧ gs.length ≤ 200000 ∧ RowsRow w' A' gs ∧ IsRings (ends es) gs ∧ Below w.heap.size w w' := by
  obtain ⟨r, hres, hl, _, hE⟩ := rings_f es hn
  obtain ⟨k, hk⟩ := hE.rounds
  have hC := C_of_edgesE h (by omega)
  have := PQueryCalls.lanternref22_Rings.calls k A c (es.map toC50) (r.map (·.map U)) w (by simpa using hC) (by simpa using hc) hk
  simp only [List.length_map] at this
  refine this.mono ?_
  rintro ee w' ⟨vv, rfl, hR, hB⟩
  obtain ⟨A', c', rfl, hle, hCr⟩ := Kd.S_reads hR
  exact ⟨A', c', r, by simp, by simpa using hle, hl, rowsC (by simpa using hCr), hres, hB⟩
end
end Go.Proofs.Ytljfknneijmfoaa
namespace Go.Proofs.Ytljfknneijmfoaa
open Go.RowKit Go.Maps Go.WideMaps Go.Lib
open Go.Proofs.YtljfknneijmfoaaW.PrintWords (q_of_own q_slice add_at)

theorem order_same1 {E : Es} {xs ys a b : List S} (hx : IsNodes E xs) (hy : IsNodes E ys) (ha : Ord E xs a) (hb : Ord E ys b) : a = b := by
  have e := hx.uniq hy
  subst e
  exact ha.uniq hb

set_option maxRecDepth 100000 in
set_option maxHeartbeats 4000000 in
theorem graphAsks10 (A : Option Addr) (cap : Nat) (es : List (S × Int × S)) (B : Option Addr) (cb : Nat) (src : List S) (w : World)
    (h3 : es.length ≤ cap ∧ cap ≤ maxLen ∧ EdgeRow w A es ∧ ∀ e ∈ es, e.1.length ≤ maxLen ∧ e.2.2.length ≤ maxLen ∧ -9223372036854775808 ≤ e.2.1 ∧ e.2.1 ≤ 9223372036854775807)
    (h4 : src.length ≤ cb ∧ cb ≤ maxLen ∧ StrRow w B src ∧ ∀ s ∈ src, s.length ≤ maxLen) :
    Calls Try.prog 10 #[.slice A es.length cap, .slice B src.length cb] w fun ee w' => ee = .returned (.bool true) ∧ Below w.heap.size w w' := by
  obtain ⟨z, hz, h25⟩ := edges25z (A := A) h3.1 h3.2.1 h3.2.2.2
  obtain ⟨y, hy, h42⟩ := total42z (A := B) h4.1 h4.2.1 h4.2.2.2
  have H25 := Lib.hid (h25 w h3.2.2.1)
  have HE := Lib.hid h3.2.2.1
  have HC := Lib.hid h3.1
  have H42 := Lib.hid h42
  have HB := Lib.hid h4.2.2.1
  have HCB := Lib.hid h4.1
  clear h3 h4 h25 h42
  by_cases hok : z ≤ 400 ∧ y ≤ 100
  · obtain ⟨hz4, hy1⟩ := hok
    have HZ := Lib.hid (hz hz4)
    have HY := Lib.hid (hy hy1)
    clear hz hy
    go_enter Try.func10, Try.ntmps10
    go_upto_region 3 with (first
      | (go_at_call 25; refine H25.out.mono ?_; rintro ee w1 ⟨rfl, hB1⟩; have HB1 := Lib.hid hB1; clear hB1)
      | (go_at_call 42; refine (H42.out _ (HB.out.below HB1.out (Nat.le_refl _))).mono ?_; rintro ee w2 ⟨rfl, hB2⟩; have HB2 := Lib.hid (HB1.out.trans (hB2.mono HB1.out.size)); clear hB2))
    go_upto_region 4 with (go_at_call 30; refine (rings30 A cap es _ (HE.out.below HB2.out (Nat.le_refl _)) (by have := HZ.out.1; omega) (fun e he => by have := HZ.out.2 e he; omega)).mono ?_; rintro ee w3 ⟨A5, c5, gs, rfl, hle, hl, hR, hI, hB3⟩; have HL5 := Lib.hid hl; have HR5 := Lib.hid hR; have HI5 := Lib.hid hI; have HB3 := Lib.hid (HB2.out.trans (hB3.mono HB2.out.size)); clear hle hl hR hI hB3)
    go_upto_region 5 with (go_at_call 43; refine (refRings43 (HE.out.below HB3.out (Nat.le_refl _)) HC.out (by have := HZ.out.1; omega)).mono ?_; rintro ee w4 ⟨A6, c6, gs2, rfl, hle, hl, hR, hI, hB4⟩; obtain rfl := HI5.out.uniq hI; have HR6 := Lib.hid hR; have HR56 := Lib.hid (HR5.out.below hB4 (Nat.le_refl _)); have HB4 := Lib.hid (HB3.out.trans (hB4.mono HB3.out.size)); clear hle hl hR hI hB4)
    have HE4 := Lib.hid (HE.out.below HB4.out (Nat.le_refl _))
    have HS4 := Lib.hid (HB.out.below HB4.out (Nat.le_refl _))
    have hl5 := HL5.out
    clear HR5 HB3 HB2 HB1 H42 H25 HE HB
    go_wp2
    go_loopw [7] (fun i wr => ∃ k : Nat, k ≤ gs.length ∧ i = .int .i64 k ∧ Below w4.heap.size w4 wr) (fun i _ => gs.length - (intOf i).toNat)
    case atStart => exact ⟨0, Nat.zero_le _, rfl, Below.refl _ _⟩
    case round =>
      obtain ⟨k, hk, rfl, hbk⟩ := hrel
      have HBK := Lib.hid hbk
      clear hbk
      by_cases hlt : k < gs.length
      · obtain ⟨g, hg⟩ : ∃ g, gs[k]? = some g := ⟨_, List.getElem?_eq_getElem hlt⟩
        obtain ⟨a5, Ag, cg, ea, cgc, hleg, hrowg⟩ := HR56.out.below HBK.out (Nat.le_refl _) k g hg
        subst ea
        obtain ⟨a6, Ah, ch, ea, chc, hleh, hrowh⟩ := HR6.out.below HBK.out (Nat.le_refl _) k g hg
        subst ea
        have hgl : g.length ≤ 1000000 := by
          have hr := (HI5.out.2 g).1 (List.mem_of_getElem? hg)
          have := nodup_le g ((ends es).map (·.1)) hr.1.nodup fun x hx => by
            obtain ⟨b, hb, _⟩ := hr.cyc hx
            exact List.mem_map.2 ⟨_, hb, rfl⟩
          rw [List.length_map] at this
          unfold ends at this
          rw [List.length_map] at this
          have := HZ.out.1
          omega
        have hkb : k ≤ 1000000 := by omega
        have i1 : (0 : Int) ≤ (k : Int) := by omega
        have i2 : (k : Int) < (gs.length : Int) := by omega
        obtain ⟨wi, rfl⟩ : ∃ wi : World, wi = wr := ⟨_, rfl⟩
        have l1 := World.block_lt_of_cell? _ _ cgc
        have l2 := World.block_lt_of_cell? _ _ chc
        have HK := Lib.hid (fun w' (h : Below wi.heap.size wi w') => (⟨h, (h.cell l1).trans cgc, (h.cell l2).trans chc⟩ : Below wi.heap.size wi w' ∧ w'.cell? _ = some (.slice Ag g.length cg) ∧ w'.cell? _ = some (.slice Ah g.length ch)))
        have H20 : Hid (∀ W, Below wi.heap.size wi W → Calls Try.prog 20 #[.slice Ag g.length cg, .slice Ah g.length ch] W fun e w' => e = .returned (.bool true) ∧ Below W.heap.size W w') := Lib.hid (fun W hW => texts20 (hrowg.below hW (Nat.le_refl _)) hleg (hrowh.below hW (Nat.le_refl _)) hleh (by omega))
        have hcur := (Below.refl wi.heap.size wi).drew
        clear cgc chc l1 l2 hrowg hrowh hg
        go_upto_region 10 with (fail)
        go_region_held3 (fun w' => Below wi.heap.size wi w' ∧ w'.cell? (a5.add k) = some (.slice Ag g.length cg) ∧ w'.cell? (a6.add k) = some (.slice Ah g.length ch))
          (exact HK.out _ hcur)
          (first | (go_at_call 20; (with_reducible refine ((H20.out _ hcur).mono ?_)); rintro ee w9 ⟨rfl, hB9⟩; replace hcur := hcur.trans (hB9.mono hcur.size); clear hB9))
        all_goals
          go_wp2
          go_roundw
          case measure => simp [intOf]; omega
          case rel => exact ⟨k + 1, hlt, by go_num, HBK.out.trans (hcur.mono HBK.out.size)⟩
      · have hke : k = gs.length := by omega
        subst hke
        have HEW := Lib.hid (HE4.out.below HBK.out (Nat.le_refl _))
        have HSW := Lib.hid (HS4.out.below HBK.out (Nat.le_refl _))
        have HBW := Lib.hid (HB4.out.trans (HBK.out.mono HB4.out.size))
        have hn4 := HZ.out.1
        have hn1 := HY.out.1
        have hcur := Below.refl wr.heap.size wr
        have tok1 : True := trivial
        have tok2 : True := trivial
        obtain ⟨wz, rfl⟩ : ∃ wz : World, wz = wr := ⟨_, rfl⟩
        go_wp2_with (first
          | (go_at_call 31; refine (nodes31 A cap es _ (HEW.out.below hcur (Nat.le_refl _)) (by omega) (fun e he => by have := HZ.out.2 e he; omega)).mono ?_; rintro ee w11 ⟨A11, c11, n1, rfl, hle, hl, hR, hX, hB⟩; have HLE11 := Lib.hid hle; have HL11 := Lib.hid hl; have HR11 := Lib.hid hR; have HX11 := Lib.hid hX; replace hcur := hcur.trans (hB.mono hcur.size); clear hle hl hR hX hB)
          | (go_at_call 44; refine (refNodes44 (HEW.out.below hcur (Nat.le_refl _)) HC.out (by omega)).mono ?_; rintro ee w12 ⟨A12, c12, n2, rfl, hle, hl, hX, hR, hB⟩; obtain rfl := HX11.out.uniq hX; have HLE12 := Lib.hid hle; have HR12 := Lib.hid hR; have HR112 := Lib.hid (HR11.out.below hB (Nat.le_refl _)); replace hcur := hcur.trans (hB.mono hcur.size); clear hle hl hR hX hB)
          | (go_at_call 20; have _t := tok1; refine (texts20 HR112.out HLE11.out HR12.out HLE12.out (by have := HL11.out; omega)).mono ?_; rintro ee w13 ⟨rfl, hB⟩; replace hcur := hcur.trans (hB.mono hcur.size); clear hB tok1)
          | (go_at_call 29; refine (reach29 A cap es B cb src _ (HEW.out.below hcur (Nat.le_refl _)) (by omega) (fun e he => by have := HZ.out.2 e he; omega) (HSW.out.below hcur (Nat.le_refl _)) (by omega) (fun s hs => by have := HY.out.2 s hs; omega)).mono ?_; rintro ee w14 ⟨A14, c14, r1, rfl, hle, hl, hR, hX, hB⟩; have HLE14 := Lib.hid hle; have HL14 := Lib.hid hl; have HR14 := Lib.hid hR; have HX14 := Lib.hid hX; replace hcur := hcur.trans (hB.mono hcur.size); clear hle hl hR hX hB)
          | (go_at_call 45; refine (refReach45 (HEW.out.below hcur (Nat.le_refl _)) HC.out (by omega) (HSW.out.below hcur (Nat.le_refl _)) HCB.out (by omega)).mono ?_; rintro ee w15 ⟨A15, c15, r2, rfl, hle, hl, hX, hR, hB⟩; obtain rfl := HX14.out.uniq hX; have HLE15 := Lib.hid hle; have HR15 := Lib.hid hR; have HR145 := Lib.hid (HR14.out.below hB (Nat.le_refl _)); replace hcur := hcur.trans (hB.mono hcur.size); clear hle hl hR hX hB)
          | (go_at_call 20; have _t := tok2; refine (texts20 HR145.out HLE14.out HR15.out HLE15.out (by have := HL14.out; omega)).mono ?_; rintro ee w16 ⟨rfl, hB⟩; replace hcur := hcur.trans (hB.mono hcur.size); clear hB tok2)
          | (go_at_call 46; refine (order46 A cap es _ (HEW.out.below hcur (Nat.le_refl _)) (by omega) (fun e he => by have := HZ.out.2 e he; omega)).mono ?_; rintro ee w17 ⟨A17, c17, o1, x1, rfl, hle, hl, hR, hX, hO, hB⟩; have HLE17 := Lib.hid hle; have HL17 := Lib.hid hl; have HR17 := Lib.hid hR; have HX17 := Lib.hid hX; have HO17 := Lib.hid hO; replace hcur := hcur.trans (hB.mono hcur.size); clear hle hl hR hX hO hB)
          | (go_at_call 47; refine (refOrder47 (HEW.out.below hcur (Nat.le_refl _)) HC.out (by omega)).mono ?_; rintro ee w18 ⟨A18, c18, o2, x2, rfl, hle, hl, hX, hO, hR, hB⟩; obtain rfl := order_same1 HX17.out hX HO17.out hO; have HLE18 := Lib.hid hle; have HR18 := Lib.hid hR; have HR178 := Lib.hid (HR17.out.below hB (Nat.le_refl _)); replace hcur := hcur.trans (hB.mono hcur.size); clear hle hl hR hX hO hB)
          | (go_at_call 20; refine (texts20 HR178.out HLE17.out HR18.out HLE18.out (by have := HL17.out; omega)).mono ?_; rintro ee w19 ⟨rfl, hB⟩; replace hcur := hcur.trans (hB.mono hcur.size); clear hB)
          | (go_at_call 48; refine (dot48 A cap es _ (HEW.out.below hcur (Nat.le_refl _)) (by omega) (fun e he => by have := HZ.out.2 e he; omega)).mono ?_; rintro ee w20 ⟨d1, rfl, hD, _, hB⟩; have HD20 := Lib.hid hD; replace hcur := hcur.trans (hB.mono hcur.size); clear hD hB)
          | (go_at_call 49; refine (refDot49 A cap es _ (HEW.out.below hcur (Nat.le_refl _)) (by omega) (fun e he => by have := HZ.out.2 e he; omega)).mono ?_; rintro ee w21 ⟨d2, rfl, hD, _, hB⟩; obtain rfl := HD20.out.uniq hD; replace hcur := hcur.trans (hB.mono hcur.size); clear hD hB)
          | (go_at_call 26; refine (awake26 _).mono ?_; rintro ee w22 ⟨rfl, hB⟩; replace hcur := hcur.trans (hB.mono hcur.size); clear hB))
        all_goals
          go_ret
          exact ⟨rfl, HBW.out.trans (hcur.mono HBW.out.size)⟩
  · clear hz hy
    have HOK := Lib.hid hok
    clear hok
    by_cases hz4 : z ≤ 400
    · have hy1 : ¬ y ≤ 100 := fun h => HOK.out ⟨hz4, h⟩
      go_enter Try.func10, Try.ntmps10
      go_wp2_with (first
        | (go_at_call 25; refine H25.out.mono ?_; rintro ee w1 ⟨rfl, hB1⟩; have hcur := hB1; clear hB1)
        | (go_at_call 42; refine (H42.out _ (HB.out.below hcur (Nat.le_refl _))).mono ?_; rintro ee w2 ⟨rfl, hB2⟩; replace hcur := hcur.trans (hB2.mono hcur.size); clear hB2)
        | (go_at_call 26; refine (awake26 _).mono ?_; rintro ee w2 ⟨rfl, hB2⟩; replace hcur := hcur.trans (hB2.mono hcur.size); clear hB2))
      all_goals
        go_ret
        exact ⟨rfl, hcur⟩
    · go_enter Try.func10, Try.ntmps10
      go_wp2_with (first
        | (go_at_call 25; refine H25.out.mono ?_; rintro ee w1 ⟨rfl, hB1⟩; have hcur := hB1; clear hB1)
        | (go_at_call 26; refine (awake26 _).mono ?_; rintro ee w2 ⟨rfl, hB2⟩; replace hcur := hcur.trans (hB2.mono hcur.size); clear hB2))
      all_goals
        go_ret
        exact ⟨rfl, hcur⟩
end Go.Proofs.Ytljfknneijmfoaa
