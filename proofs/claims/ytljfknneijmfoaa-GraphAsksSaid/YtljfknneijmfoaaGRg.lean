import Derived.Test.YtljfknneijmfoaaGPa
import Derived.Test.YtljfknneijmfoaaDot
namespace Go.Proofs.Ytljfknneijmfoaa
open Go.RowKit Go.Maps Go.WideMaps Go.Lib
open Go.Proofs.YtljfknneijmfoaaW.PrintWords (q_of_own q_slice)

/-- By one edge at least. -/
def Lead (E : Es) (s x : S) : Prop := ∃ y, (s, y) ∈ E ∧ Conn E y x

theorem lead_iff {E : Es} {s x : S} {ys : List S} {out : S → Option Nat} (hy : IsNext E s ys) (ho : ∀ x d, out x = some d ↔ Dist E ys x d) : (out x).isSome = true ↔ Lead E s x := by
  rw [Option.isSome_iff_exists]
  constructor
  · rintro ⟨d, hd⟩
    obtain ⟨y, hy', hc⟩ := dist_conn ((ho x d).1 hd)
    exact ⟨y, (hy.2 y).1 hy', hc⟩
  · rintro ⟨y, hy', hc⟩
    obtain ⟨d, hd⟩ := conn_dist ((hy.2 y).2 hy') hc
    exact ⟨d, (ho x d).2 hd⟩

/-- The map of maps of what can be come to, of the nodes given. -/
def WaysAt (w : World) (b base : Nat) (E : Es) (N : Nat) (nodes : List S) : Prop :=
  ∃ bm : S → Nat, hmap w b N (fun s => if s ∈ nodes then some (.map (some (bm s))) else none) ∧
    ∀ s, s ∈ nodes → base ≤ bm s ∧ ∃ out M, hmap w (bm s) M (dmap out) ∧ ∀ x, (out x).isSome = true ↔ Lead E s x

theorem WaysAt.below {w w' : World} {b base k N : Nat} {E : Es} {nodes : List S} (h : WaysAt w b base E N nodes) (hB : Below k w w') (hk : w.heap.size ≤ k) : WaysAt w' b base E N nodes := by
  obtain ⟨bm, hm, ho⟩ := h
  refine ⟨bm, hm.below hB (by have := hm.lt; omega), fun s hs => ?_⟩
  obtain ⟨h1, out, M, h2, h3⟩ := ho s hs
  exact ⟨h1, out, M, h2.below hB (by have := h2.lt; omega), h3⟩

theorem zero84 (w : World) : (zeroValue 84).run Try.prog w = .ok (.map none) w := by kernel_rfl

set_option maxRecDepth 100000 in
theorem ways63 (p : Nat) (E : Es) (xs : List S) (w : World) (hN : NetAt w p E) (hX : IsNodes E xs) (hE : E.length ≤ 100000) (he : ∀ e ∈ E, e.1.length ≤ 100000 ∧ e.2.length ≤ 100000) :
    Calls Try.prog 63 #[.pointer (some ⟨p, 0, none⟩)] w fun e w' => e = .returned (.map (some w.heap.size)) ∧ WaysAt w' w.heap.size (w.heap.size + 1) E xs.length xs ∧ Below w.heap.size w w' := by
  have hmm := @run_makeMap Try.prog
  have hN0 := hN
  obtain ⟨v, xs', bx, n, f, hp, hm, ho, hx', hxl, hnx⟩ := hN
  have hxx := hx'.uniq hX
  subst hxx
  have hpl : p < w.heap.size := (Array.getElem?_eq_some_iff.1 hp).1
  have hxs : ∀ x ∈ xs', x.length ≤ 100000 := fun x hx => by
    obtain ⟨y, hy | hy⟩ := (hX.2 x).1 hx
    · exact (he _ hy).1
    · exact (he _ hy).2
  obtain ⟨Av, cv, rfl⟩ := own_form ho
  have hrow := row_q (q_of_own ho)
  have HN := Lib.hid hN0
  have HP := Lib.hid hp
  have HM := Lib.hid hm
  have HROW := Lib.hid hrow
  have HNX := Lib.hid hnx
  have HXS := Lib.hid hxs
  have HE := Lib.hid he
  have HLT := Lib.hid hm.lt
  clear hN0 hp hm ho hx' hnx hxs he hX hrow
  go_enter Try.func63, Try.ntmps63
  go_upto_region 2 with (fail)
  obtain ⟨w1, hw1⟩ : ∃ w1, w1 = w.alloc (.map #[] 0) := ⟨_, rfl⟩
  rw [← hw1]
  have hb1 : Below w.heap.size w w1 := by rw [hw1]; exact (Below.refl _ w).alloc (Nat.le_refl _) _
  have hz1 : w1.heap.size = w.heap.size + 1 := by rw [hw1]; exact World.size_alloc _ _
  have hm1 : hmap w1 w.heap.size 0 (fun _ => none) := by rw [hw1]; exact hmap_made w
  have hp1 := (hb1.block p hpl).trans HP.out
  have k0 := cell_of_block (j := 0) hp1 rfl
  have HB1 := Lib.hid hb1
  have HM1 := Lib.hid hm1
  clear hb1 hm1 hp1 hw1 hmm
  go_wp2
  clear k0
  go_loopw [12] (fun i wr => ∃ k : Nat, k ≤ xs'.length ∧ i = .int .i64 k ∧ WaysAt wr w.heap.size (w.heap.size + 1) E k (xs'.take k) ∧ Below w.heap.size w wr ∧ w.heap.size + 1 ≤ wr.heap.size) (fun i _ => xs'.length - (intOf i).toNat)
  case atStart =>
    refine ⟨0, Nat.zero_le _, rfl, ⟨fun _ => 0, ?_, fun s hs => by simp at hs⟩, HB1.out, by omega⟩
    exact HM1.out.congr fun s => by simp
  case round =>
    obtain ⟨k, hk, rfl, hW, hB, hz⟩ := hrel
    have HW := Lib.hid hW
    have HB := Lib.hid hB
    clear hW hB
    by_cases hlt : k < xs'.length
    · obtain ⟨x, hx⟩ : ∃ x, xs'[k]? = some x := ⟨_, List.getElem?_eq_getElem hlt⟩
      obtain ⟨ad, rfl, hc⟩ := (HROW.out.below HB.out (Nat.le_refl _)) k x hx
      have hp1 := (HB.out.block p hpl).trans HP.out
      have k1 := cell_of_block (j := 1) hp1 rfl
      have hxlen := HXS.out x (List.mem_of_getElem? hx)
      have hxm : (U x).size ≤ maxLen := by rw [size_U]; unfold maxLen; omega
      obtain ⟨ys, hys, hyl, hyo⟩ := HNX.out x
      obtain ⟨A2, c2, hv2⟩ := own_form hyo
      rw [hv2] at hyo
      have hyr := (row_q (q_of_own hyo)).below HB.out (Nat.le_refl _)
      have hys100 : ∀ y ∈ ys, y.length ≤ 100000 := fun y hy => (HE.out _ ((hys.2 y).1 hy)).2
      have HF := Lib.hid (far59 p E A2 c2 ys wr (HN.out.below HB.out (Nat.le_refl _)) hyr hyl hE hys100 HE.out)
      have HMX := Lib.hid (HM.out.below HB.out HLT.out)
      have HV2 : Hid ((f (B (U x))).getD (.slice none 0 0) = .slice A2 ys.length c2) := Lib.hid hv2
      have HXM := Lib.hid hxm
      have HYS := Lib.hid hys
      have HX := Lib.hid hx
      have hkb : k ≤ 1000000 := by omega
      obtain ⟨bm, hm0, ho0⟩ := HW.out
      have HM0 := Lib.hid hm0
      have HO0 := Lib.hid ho0
      clear hp1 hxlen hxm hys hyo hyr hys100 hv2 hx hm0 ho0
      go_wp2_with (first
        | (at_lookup; refine wpList_lookup_h _ rfl _ _ 88 rfl 22 Try.underlying88 (.slice none 0 0) (zero22 _) bx n f rfl HMX.out (U x) rfl HXM.out (.slice A2 ys.length c2) HV2.out ?_)
        | (go_at_call 59; refine HF.out.mono ?_; rintro ee w2 ⟨rfl, ⟨out, M, hmo, _, _, hdo⟩, hB2⟩; have HMO := Lib.hid hmo; have HDO := Lib.hid hdo; have HB2 := Lib.hid hB2; have HM2 := Lib.hid (HM0.out.below hB2 (by omega)); clear hmo hdo hB2)
        | (at_mapUpdate; refine wpList_update_h _ rfl _ _ _ 96 rfl 84 Try.underlying96 w.heap.size _ _ rfl HM2.out (by unfold maxLen; omega) (U x) rfl HXM.out (.map (some wr.heap.size)) rfl ?_; intro w3 hm3 hg3; have HM3 := Lib.hid hm3; have HG3 := Lib.hid hg3; clear hm3 hg3))
      go_roundw
      case measure => simp [intOf]; omega
      case rel =>
        have hB2 := HB2.out
        have hg3 := HG3.out
        refine ⟨k + 1, hlt, by go_num, ⟨fun s => if s = x then wr.heap.size else bm s, ?_, ?_⟩, ?_, ?_⟩
        · refine HM3.out.congr fun s => ?_
          rw [List.take_add_one, HX.out]
          unfold upd
          rw [B_U]
          by_cases e : s = x
          · simp [e]
          · by_cases h : s ∈ xs'.take k
            · simp [e, h]
            · simp [e, h]
        · intro s hs
          by_cases e : s = x
          · subst e
            refine ⟨by simp; omega, out, M, ?_, fun y => lead_iff HYS.out HDO.out⟩
            simp only [if_true]
            exact HMO.out.kept hg3 (by simp; omega)
          · have hs' : s ∈ xs'.take k := by
              rw [List.take_add_one, HX.out] at hs
              simpa [e] using hs
            obtain ⟨q1, out', M', q2, q3⟩ := HO0.out s hs'
            refine ⟨by simp only [if_neg e]; exact q1, out', M', ?_, q3⟩
            simp only [if_neg e]
            exact (q2.below hB2 q2.lt).kept hg3 (by simp; omega)
        · exact (HB.out.trans (hB2.mono HB.out.size)).grown hg3 (by have := hB2.size; omega) (fun j hj => by cases hj; exact Nat.le_refl _)
        · have := hB2.size
          have := hg3.size
          omega
    · have hke : k = xs'.length := by omega
      subst hke
      go_wp2_with fail
      go_ret
      have hw := HW.out
      rw [List.take_length] at hw
      exact ⟨rfl, hw, HB.out⟩

set_option maxRecDepth 100000 in
/-- leads: one answer, told by whether it can be come to. -/
theorem leads64 {w : World} {b base N : Nat} {E : Es} {nodes : List S} (h : WaysAt w b base E N nodes) (s x : S) (hs : s ∈ nodes) (hsl : s.length ≤ 100000) (hxl : x.length ≤ 100000) (t : Bool) (ht : t = true ↔ Lead E s x) :
    Calls Try.prog 64 #[.map (some b), .string (U s), .string (U x)] w fun e w' => e = .returned (.bool t) ∧ w' = w := by
  obtain ⟨bm, hm, ho⟩ := h
  obtain ⟨_, out, M, hmo, hout⟩ := ho s hs
  have hv : ((fun q => if q ∈ nodes then some (Value.map (some (bm q))) else none) (B (U s))).getD (.map none) = .map (some (bm s)) := by
    show (if s ∈ nodes then some (Value.map (some (bm s))) else none).getD (.map none) = _
    rw [if_pos hs]
    rfl
  have hok : ((dmap out) (B (U x))).isSome = t := by
    show ((out x).map _).isSome = t
    rw [Option.isSome_map, Bool.eq_iff_iff, hout, ht]
  have HM := Lib.hid hm
  have HMO := Lib.hid hmo
  have HV := Lib.hid hv
  have HOK := Lib.hid hok
  have hs1 : (U s).size ≤ maxLen := by rw [size_U]; unfold maxLen; omega
  have hx1 : (U x).size ≤ maxLen := by rw [size_U]; unfold maxLen; omega
  have HS1 := Lib.hid hs1
  have HX1 := Lib.hid hx1
  clear hm ho hmo hout hv hok hs1 hx1 ht
  go_enter Try.func64, Try.ntmps64
  go_wp2_with (first
    | (at_lookup; refine wpList_lookup_h _ rfl _ _ 96 rfl 84 Try.underlying96 (.map none) (zero84 _) b N _ rfl HM.out (U s) rfl HS1.out (.map (some (bm s))) HV.out ?_)
    | (at_lookup; refine wpList_lookup_ok_h _ rfl _ _ 84 rfl 3 Try.underlying84 (.int .i64 0) (zero3 _) (bm s) M _ rfl HMO.out (U x) rfl HX1.out _ rfl t HOK.out ?_))
  go_ret
  exact ⟨rfl, rfl⟩

theorem lead_conn {E : Es} {s x : S} (h : Lead E s x) : Conn E s x := by
  obtain ⟨y, hy, hc⟩ := h
  exact (Conn.edge hy).trans hc

theorem conn_lead {E : Es} {s x : S} (h : Conn E s x) (hne : s ≠ x) : Lead E s x := by
  obtain ⟨n, hw⟩ := h
  cases hw with
  | nil => exact absurd rfl hne
  | cons h1 h2 => exact ⟨_, h1, _, h2⟩

theorem lead_self {E : Es} {s : S} : Lead E s s ↔ Cyc E s := Iff.rfl

/-- Who goes in a ring with s. -/
theorem mut_iff {E : Es} {s t : S} : (t = s ∨ (Lead E s t ∧ Lead E t s)) ↔ Mut E s t := by
  constructor
  · rintro (rfl | ⟨h1, h2⟩)
    · exact Mut.refl E _
    · exact ⟨lead_conn h1, lead_conn h2⟩
  · rintro ⟨h1, h2⟩
    by_cases e : t = s
    · exact .inl e
    · exact .inr ⟨conn_lead h1 (fun c => e c.symm), conn_lead h2 e⟩
end Go.Proofs.Ytljfknneijmfoaa
namespace Go.Proofs.Ytljfknneijmfoaa

open Classical in
/-- The ring of a node. -/
noncomputable def ringOf (E : Es) (xs : List S) (s : S) : List S := xs.filter fun t => decide (Mut E s t)

/-- The rings whose first node stands among so many. -/
structure RS (E : Es) (xs : List S) (k : Nat) (gs : List (List S)) : Prop where
  asc : gs.Pairwise fun g h => hd g < hd h
  mem : ∀ g, g ∈ gs ↔ IsRing E g ∧ hd g ∈ xs.take k

theorem hd_mem {g : List S} (h : g ≠ []) : hd g ∈ g := by
  cases g with
  | nil => exact absurd rfl h
  | cons a g => exact List.mem_cons_self

theorem hd_le {g : List S} (h : SS g) {t : S} (ht : t ∈ g) : hd g ≤ t := by
  cases g with
  | nil => cases ht
  | cons a g =>
    rcases List.mem_cons.1 ht with rfl | ht
    · exact Std.le_refl _
    · exact Std.le_of_lt ((List.pairwise_cons.1 h).1 t ht)

theorem take_of_lt {xs : List S} (h : SS xs) {k : Nat} {s x : S} (hk : xs[k]? = some s) (hx : x ∈ xs) (hlt : x < s) : x ∈ xs.take k := by
  obtain ⟨hkl, rfl⟩ := List.getElem?_eq_some_iff.1 hk
  obtain ⟨j, hj, rfl⟩ := List.mem_iff_getElem.1 hx
  have hjk : j < k := by
    apply Classical.byContradiction
    intro c
    by_cases e : j = k
    · subst e; exact Std.lt_irrefl hlt
    · exact Std.lt_irrefl (Std.lt_trans hlt ((List.pairwise_iff_getElem.1 h) k j hkl hj (by omega)))
  rw [List.mem_iff_getElem]
  exact ⟨j, by rw [List.length_take]; omega, by rw [List.getElem_take]⟩

theorem lt_of_take {xs : List S} (h : SS xs) {k : Nat} {s x : S} (hk : xs[k]? = some s) (hx : x ∈ xs.take k) : x < s := by
  obtain ⟨hkl, rfl⟩ := List.getElem?_eq_some_iff.1 hk
  obtain ⟨j, hj, rfl⟩ := List.mem_iff_getElem.1 hx
  rw [List.length_take] at hj
  rw [List.getElem_take]
  exact (List.pairwise_iff_getElem.1 h) j k (by omega) hkl (by omega)

theorem mem_ringOf {E : Es} {xs : List S} {s t : S} (hX : IsNodes E xs) (hc : Cyc E s) : t ∈ ringOf E xs s ↔ Mut E s t := by
  unfold ringOf
  simp only [List.mem_filter, decide_eq_true_eq]
  exact ⟨fun h => h.2, fun h => ⟨(hX.2 t).2 (h.mem_cyc hc).node, h⟩⟩

theorem ringOf_ring {E : Es} {xs : List S} {s : S} (hX : IsNodes E xs) (hc : Cyc E s) : IsRing E (ringOf E xs s) :=
  ⟨List.Pairwise.filter _ hX.1, s, hc, fun _ => mem_ringOf hX hc⟩

theorem take_succ_mem {xs : List S} {k : Nat} {s x : S} (hk : xs[k]? = some s) : x ∈ xs.take (k + 1) ↔ x ∈ xs.take k ∨ x = s := by
  rw [List.take_add_one, hk, Option.toList_some, List.mem_append, List.mem_singleton]

variable {E : Es} {xs : List S} {k : Nat} {gs : List (List S)} {s : S}

theorem RS.done (h : RS E xs k gs) (hk : xs[k]? = some s) (hd' : ∃ g, g ∈ gs ∧ s ∈ g) : RS E xs (k + 1) gs := by
  obtain ⟨g0, hg0, hs0⟩ := hd'
  refine ⟨h.asc, fun g => (h.mem g).trans ⟨fun q => ⟨q.1, (take_succ_mem hk).2 (.inl q.2)⟩, fun q => ⟨q.1, ?_⟩⟩⟩
  rcases (take_succ_mem hk).1 q.2 with q2 | q2
  · exact q2
  · have hsg : s ∈ g := by rw [← q2]; exact hd_mem q.1.ne_nil
    have := ((h.mem g0).1 hg0).1.eq_of_mem q.1 hs0 hsg
    rw [← this]
    exact ((h.mem g0).1 hg0).2

theorem RS.nocyc (h : RS E xs k gs) (hk : xs[k]? = some s) (hc : ¬ Cyc E s) : RS E xs (k + 1) gs := by
  refine ⟨h.asc, fun g => (h.mem g).trans ⟨fun q => ⟨q.1, (take_succ_mem hk).2 (.inl q.2)⟩, fun q => ⟨q.1, ?_⟩⟩⟩
  rcases (take_succ_mem hk).1 q.2 with q2 | q2
  · exact q2
  · exact absurd (q.1.cyc (a := s) (by rw [← q2]; exact hd_mem q.1.ne_nil)) hc

theorem RS.hd_new (h : RS E xs k gs) (hX : IsNodes E xs) (hk : xs[k]? = some s) (hc : Cyc E s) (hn : ¬ ∃ g, g ∈ gs ∧ s ∈ g) : hd (ringOf E xs s) = s := by
  have hr := ringOf_ring hX hc
  have hs : s ∈ ringOf E xs s := (mem_ringOf hX hc).2 (Mut.refl E s)
  apply Classical.byContradiction
  intro hne
  have hlt : hd (ringOf E xs s) < s := Std.lt_of_le_of_ne (hd_le hr.1 hs) hne
  have hx : hd (ringOf E xs s) ∈ xs := (List.mem_filter.1 (hd_mem hr.ne_nil)).1
  exact hn ⟨_, (h.mem _).2 ⟨hr, take_of_lt hX.1 hk hx hlt⟩, hs⟩

theorem RS.new (h : RS E xs k gs) (hX : IsNodes E xs) (hk : xs[k]? = some s) (hc : Cyc E s) (hn : ¬ ∃ g, g ∈ gs ∧ s ∈ g) : RS E xs (k + 1) (gs ++ [ringOf E xs s]) := by
  have hhd := h.hd_new hX hk hc hn
  have hr := ringOf_ring hX hc
  refine ⟨?_, fun g => ?_⟩
  · rw [List.pairwise_append]
    refine ⟨h.asc, by simp, fun a ha b hb => ?_⟩
    rw [List.mem_singleton] at hb
    subst hb
    rw [hhd]
    exact lt_of_take hX.1 hk ((h.mem a).1 ha).2
  · rw [List.mem_append, List.mem_singleton, h.mem]
    constructor
    · rintro (q | rfl)
      · exact ⟨q.1, (take_succ_mem hk).2 (.inl q.2)⟩
      · exact ⟨hr, (take_succ_mem hk).2 (.inr hhd)⟩
    · rintro ⟨q1, q2⟩
      rcases (take_succ_mem hk).1 q2 with q2 | q2
      · exact .inl ⟨q1, q2⟩
      · right
        have hsg : s ∈ g := by rw [← q2]; exact hd_mem q1.ne_nil
        exact q1.eq_of_mem hr hsg ((mem_ringOf hX hc).2 (Mut.refl E s))

theorem RS.all (h : RS E xs xs.length gs) (hX : IsNodes E xs) : IsRings E gs := by
  refine ⟨h.asc, fun g => (h.mem g).trans ⟨fun q => q.1, fun q => ⟨q, ?_⟩⟩⟩
  rw [List.take_length]
  exact (hX.2 _).2 (q.cyc (hd_mem q.ne_nil)).node

theorem RS.start : RS E xs 0 [] := ⟨.nil, fun g => ⟨fun h => (by cases h), fun h => (by simp at h)⟩⟩

/-- Two rings have nobody in common: what is in none so far, and goes in a ring with s, is in none. -/
theorem RS.fresh (h : RS E xs k gs) {t : S} (hm : Mut E s t) (hn : ¬ ∃ g, g ∈ gs ∧ s ∈ g) : ¬ ∃ g, g ∈ gs ∧ t ∈ g := by
  rintro ⟨g, hg, ht⟩
  obtain ⟨_, q, hq, hqm⟩ := ((h.mem g).1 hg).1
  exact hn ⟨g, hg, (hqm s).2 (((hqm t).1 ht).trans hm.symm)⟩

theorem ringOf_take (E : Es) (xs : List S) (s : S) (i : Nat) (h : i < xs.length) : ringOf E (xs.take (i + 1)) s = ringOf E (xs.take i) s ++ (open Classical in if Mut E s xs[i] then [xs[i]] else []) := by
  unfold ringOf
  rw [List.take_add_one, List.getElem?_eq_getElem h, Option.toList_some, List.filter_append]
  congr 1
  rw [List.filter_cons, List.filter_nil]
  by_cases hm : Mut E s xs[i]
  · simp [hm]
  · simp [hm]
end Go.Proofs.Ytljfknneijmfoaa
namespace Go.Proofs.Ytljfknneijmfoaa
open Go.RowKit Go.Maps Go.WideMaps Go.Lib
open Go.Proofs.YtljfknneijmfoaaW.PrintWords (q_of_own q_slice q_cells add_at)

theorem info22 : (Try.prog.info? 22).map (fun i => (i.zero, i.size, i.bytes)) = some (some (.slice none 0 0), 1, 24) := by kernel_rfl

/-- A row of rows of strings that is read. -/
def RowsRow (w : World) (A : Option Addr) (gs : List (List S)) : Prop := ∀ (k : Nat) (g : List S), gs[k]? = some g → ∃ ad Ai ci, A = some ad ∧ w.cell? (ad.add k) = some (.slice Ai g.length ci) ∧ g.length ≤ ci ∧ StrRow w Ai g

theorem RowsRow.below {w w' : World} {A : Option Addr} {gs : List (List S)} {k : Nat} (h : RowsRow w A gs) (hB : Below k w w') (hk : w.heap.size ≤ k) : RowsRow w' A gs := by
  intro j g hg
  obtain ⟨ad, Ai, ci, rfl, h1, h2, h3⟩ := h j g hg
  have := World.block_lt_of_cell? w _ h1
  exact ⟨ad, Ai, ci, rfl, (hB.cell (by omega)).trans h1, h2, h3.below hB hk⟩

theorem StrRow.frame {w w' : World} {A : Option Addr} {xs : List S} (h : StrRow w A xs) (hk : ∀ a, A = some a → w'.heap[a.block]? = w.heap[a.block]?) : StrRow w' A xs := by
  intro k x hx
  obtain ⟨ad, rfl, hc⟩ := h k x hx
  refine ⟨ad, rfl, ?_⟩
  have e : (ad.add k).block = ad.block := by unfold Addr.add; split <;> rfl
  exact (World.cell?_of_block (w := w) (w' := w') (by rw [e]; exact hk ad rfl)).trans hc

/-- The rings that are found, where they lie: apart from the map of who was met and from the row that holds them. -/
def Fin (w : World) (bm : Nat) (ob : Option Nat) (vals : List Value) (gs : List (List S)) : Prop :=
  vals.length = gs.length ∧ ∀ (k : Nat) (g : List S), gs[k]? = some g → ∃ Ai ci, vals[k]? = some (.slice Ai g.length ci) ∧ g.length ≤ ci ∧ StrRow w Ai g ∧ ∀ a, Ai = some a → a.block < w.heap.size ∧ a.block ≠ bm ∧ some a.block ≠ ob

theorem Fin.keep {w w' : World} {bm : Nat} {ob ob' : Option Nat} {vals : List Value} {gs : List (List S)} (h : Fin w bm ob vals gs) (hs : w.heap.size ≤ w'.heap.size) (hk : ∀ j, j < w.heap.size → j ≠ bm → some j ≠ ob → w'.heap[j]? = w.heap[j]?)
    (ho : ob' = ob ∨ ∃ b, ob' = some b ∧ w.heap.size ≤ b) : Fin w' bm ob' vals gs := by
  refine ⟨h.1, fun k g hg => ?_⟩
  obtain ⟨Ai, ci, h1, h2, h3, h4⟩ := h.2 k g hg
  refine ⟨Ai, ci, h1, h2, h3.frame fun a ha => ?_, fun a ha => ?_⟩
  · obtain ⟨q1, q2, q3⟩ := h4 a ha
    exact hk _ q1 q2 q3
  · obtain ⟨q1, q2, q3⟩ := h4 a ha
    refine ⟨by omega, q2, ?_⟩
    rcases ho with rfl | ⟨b, rfl, hb⟩
    · exact q3
    · intro e
      injection e with e
      omega

theorem Fin.snoc {w : World} {bm : Nat} {ob : Option Nat} {vals : List Value} {gs : List (List S)} (h : Fin w bm ob vals gs) {g : List S} {Ai : Option Addr} {ci : Nat} (h2 : g.length ≤ ci) (h3 : StrRow w Ai g) (h4 : ∀ a, Ai = some a → a.block < w.heap.size ∧ a.block ≠ bm ∧ some a.block ≠ ob) :
    Fin w bm ob (vals ++ [.slice Ai g.length ci]) (gs ++ [g]) := by
  refine ⟨by simp [h.1], fun k q hq => ?_⟩
  by_cases hk : k < gs.length
  · rw [List.getElem?_append_left hk] at hq
    rw [List.getElem?_append_left (by rw [h.1]; exact hk)]
    exact h.2 k q hq
  · rw [List.getElem?_append_right (by omega)] at hq
    have hk0 : k - gs.length = 0 := by
      have := (List.getElem?_eq_some_iff.1 hq).1
      simp at this
      omega
    rw [hk0] at hq
    cases hq
    rw [List.getElem?_append_right (by rw [h.1]; omega), h.1, hk0]
    exact ⟨Ai, ci, rfl, h2, h3, h4⟩

theorem Fin.rows {w : World} {bm base : Nat} {A : Option Addr} {c : Nat} {vals : List Value} {gs : List (List S)} {ob : Option Nat} (h : Fin w bm ob vals gs) (ho : w.ownsRow base 22 1 (.slice A gs.length c) gs.length vals) : RowsRow w A gs := by
  intro k g hg
  have hk : k < gs.length := (List.getElem?_eq_some_iff.1 hg).1
  obtain ⟨ad, rfl, hc⟩ := q_cells (q_of_own ho) (by omega)
  obtain ⟨Ai, ci, h1, h2, h3, _⟩ := h.2 k g hg
  exact ⟨ad, Ai, ci, rfl, hc k _ h1, h2, h3⟩

/-- Who was met: of the rings found, and more. -/
def metF (gs : List (List S)) (more : List S) : S → Option Value := fun t => if t ∈ gs.flatten ∨ t ∈ more then some (.int .i64 1) else none

theorem met_add {gs : List (List S)} {more : List S} {t x : S} : upd (metF gs more) t (.int .i64 1) x = metF gs (more ++ [t]) x := by
  unfold upd metF
  by_cases e : x = t
  · simp [e]
  · simp [e]

theorem met_new {gs : List (List S)} {g : List S} {x : S} : metF gs g x = metF (gs ++ [g]) [] x := by
  unfold metF
  simp

theorem met_step {bm : Nat} {gs : List (List S)} {rg : List S} {t : S} {w2 wr0 wi w5 w6 : World} {A8 : Option Addr} {c8 gg cap' : Nat} (hbm : bm < wr0.heap.size) (hm5 : hmap w5 bm (gs.flatten.length + rg.length + 1) (upd (metF gs rg) (B (U t)) (.int .i64 1))) (hg5 : wi.grownBy w5 (some bm))
    (hown : wi.ownsRow wr0.heap.size 9 1 (.slice A8 rg.length c8) rg.length (rg.map encStr)) (hkp : ∀ j, j < wr0.heap.size → j ≠ bm → wi.heap[j]? = wr0.heap[j]?) (hsz : wr0.heap.size ≤ wi.heap.size) (hB : Below bm w2 wi) (hb2 : bm ≤ w2.heap.size)
    (hown6 : w6.ownsRow wr0.heap.size 9 1 (.slice (some ⟨gg, 0, none⟩) (rg.length + 1) cap') (rg.length + 1) (rg.map encStr ++ [.string (U t)])) (hgrow6 : (w5.alloc (.cells #[.string (U t)] 9)).grownBy w6 (Value.slice A8 rg.length c8).ownBlock) :
    (rg ++ [t]).length ≤ cap' ∧ hmap w6 bm (gs.flatten.length + (rg ++ [t]).length) (metF gs (rg ++ [t])) ∧ w6.ownsRow wr0.heap.size 9 1 (.slice (some ⟨gg, 0, none⟩) (rg ++ [t]).length cap') (rg ++ [t]).length ((rg ++ [t]).map encStr) ∧
      (∀ j, j < wr0.heap.size → j ≠ bm → w6.heap[j]? = wr0.heap[j]?) ∧ wr0.heap.size ≤ w6.heap.size ∧ Below bm w2 w6 := by
  have z5 := hg5.size
  have z6 := hgrow6.size
  rw [World.size_alloc] at z6
  have hlo : ∀ b, (Value.slice A8 rg.length c8).ownBlock = some b → wr0.heap.size ≤ b := fun b hb => (hown.lt b hb).1
  obtain ⟨_, _, he, hle⟩ := q_slice (q_of_own hown6)
  injection he with _ _ he
  subst he
  refine ⟨by simpa using hle, ?_, ?_, fun j hj hjb => ?_, by omega, ?_⟩
  · have h1 : hmap w5 bm (gs.flatten.length + (rg ++ [t]).length) (metF gs (rg ++ [t])) := by
      have := (hm5.congr fun x => met_add (gs := gs) (more := rg) (t := t) (x := x))
      rw [List.length_append, List.length_singleton, ← Nat.add_assoc]
      exact this
    refine (h1.alloc _).kept hgrow6 fun e => ?_
    have := hlo bm e.symm
    omega
  · simpa [enc_U] using hown6
  · rw [hgrow6.block j (by rw [World.size_alloc]; omega) (fun e => by have := hlo j e.symm; omega), Below.heap_alloc _ _ _ (by omega), hg5.block j (by omega) (fun e => hjb (Option.some.inj e)), hkp j hj hjb]
  · have b5 := hB.grown hg5 (Nat.le_trans hb2 hB.size) (fun q hq => by cases hq; exact Nat.le_refl _)
    have b6 := b5.alloc (Nat.le_trans hb2 b5.size) (.cells #[.string (U t)] 9)
    exact b6.grown hgrow6 (Nat.le_trans hb2 b6.size) (fun q hq => by have := hlo q hq; omega)

/-- A ring is put behind the others. -/
theorem ring_end {bm : Nat} {gs : List (List S)} {rg : List S} {vals : List Value} {w2 wr0 wi w7 : World} {A2 A8 : Option Addr} {c2 c8 gg cap7 : Nat} (hbm : bm < wr0.heap.size) (hF : Fin wr0 bm (Value.slice A2 gs.length c2).ownBlock vals gs)
    (hO : wr0.ownsRow (bm + 1) 22 1 (.slice A2 gs.length c2) gs.length vals) (hkp : ∀ j, j < wr0.heap.size → j ≠ bm → wi.heap[j]? = wr0.heap[j]?) (hsz : wr0.heap.size ≤ wi.heap.size) (hB : Below bm w2 wi) (hb2 : bm ≤ w2.heap.size)
    (hmi : hmap wi bm (gs.flatten.length + rg.length) (metF gs rg)) (howni : wi.ownsRow wr0.heap.size 9 1 (.slice A8 rg.length c8) rg.length (rg.map encStr)) (hle8 : rg.length ≤ c8)
    (hown7 : w7.ownsRow (bm + 1) 22 1 (.slice (some ⟨gg, 0, none⟩) (gs.length + 1) cap7) (gs.length + 1) (vals ++ [.slice A8 rg.length c8]))
    (hgrow7 : (wi.alloc (.cells #[.slice A8 rg.length c8] 22)).grownBy w7 (Value.slice A2 gs.length c2).ownBlock) (hat : (Value.slice A2 gs.length c2).ownBlock = some gg ∨ gg = wi.heap.size + 1) :
    (gs ++ [rg]).length ≤ cap7 ∧ hmap w7 bm (gs ++ [rg]).flatten.length (metF (gs ++ [rg]) []) ∧ w7.ownsRow (bm + 1) 22 1 (.slice (some ⟨gg, 0, none⟩) (gs ++ [rg]).length cap7) (gs ++ [rg]).length (vals ++ [.slice A8 rg.length c8]) ∧
      Fin w7 bm (Value.slice (some ⟨gg, 0, none⟩) (gs ++ [rg]).length cap7).ownBlock (vals ++ [.slice A8 rg.length c8]) (gs ++ [rg]) ∧ Below bm w2 w7 ∧ bm + 1 ≤ w7.heap.size := by
  have z7 := hgrow7.size
  rw [World.size_alloc] at z7
  have hlo : ∀ b, (Value.slice A2 gs.length c2).ownBlock = some b → bm + 1 ≤ b ∧ b < wr0.heap.size := fun b hb => hO.lt b hb
  obtain ⟨_, _, he, hle⟩ := q_slice (q_of_own hown7)
  injection he with _ _ he
  subst he
  have hk7 : ∀ j, j < wi.heap.size → some j ≠ (Value.slice A2 gs.length c2).ownBlock → w7.heap[j]? = wi.heap[j]? := fun j hj hne => by
    rw [hgrow7.block j (by rw [World.size_alloc]; omega) (fun e => hne (by rw [← e])), Below.heap_alloc _ _ _ (by omega)]
  have hlen : (gs ++ [rg]).length = gs.length + 1 := by simp
  have hA8 : ∀ a, A8 = some a → wr0.heap.size ≤ a.block ∧ a.block < wi.heap.size := by
    rintro a rfl
    rcases howni.2 with ⟨h, _⟩ | ⟨g, cap, cur, h, hg, hh, r⟩
    · cases h
    · cases h
      exact howni.lt g rfl
  refine ⟨by rw [hlen]; exact hle, ?_, by rw [hlen]; exact hown7, ?_, ?_, by omega⟩
  · have h1 := (hmi.alloc (.cells #[.slice A8 rg.length c8] 22)).kept hgrow7 (fun e => by have := hlo bm e.symm; omega)
    have h2 := h1.congr fun x => met_new (gs := gs) (g := rg) (x := x)
    have : (gs ++ [rg]).flatten.length = gs.flatten.length + rg.length := by simp
    rw [this]
    exact h2
  · have hF7 : Fin w7 bm (some gg) vals gs := hF.keep (by omega) (fun j hj hjb hjo => by rw [hk7 j (by omega) hjo, hkp j hj hjb]) (by
      rcases hat with h | h
      · exact .inl h.symm
      · exact .inr ⟨gg, rfl, by omega⟩)
    refine hF7.snoc hle8 ((row_q (q_of_own howni)).frame fun a ha => ?_) fun a ha => ?_
    · obtain ⟨q1, q2⟩ := hA8 a ha
      exact hk7 _ q2 (fun e => by have := hlo _ e.symm; omega)
    · obtain ⟨q1, q2⟩ := hA8 a ha
      refine ⟨by omega, by omega, fun e => ?_⟩
      have e := Option.some.inj e
      rcases hat with h | h
      · have := hlo gg h; omega
      · omega
  · have b6 := hB.alloc (Nat.le_trans hb2 hB.size) (.cells #[.slice A8 rg.length c8] 22)
    exact b6.grown hgrow7 (Nat.le_trans hb2 b6.size) (fun q hq => by have := hlo q hq; omega)

/-- So many at most were met. -/
def lim (k : Nat) : Nat := k * 200000
theorem lim_succ {k n : Nat} (h : n ≤ lim k) : n ≤ lim (k + 1) := Nat.le_trans h (Nat.mul_le_mul_right _ (Nat.le_succ k))
theorem lim_add {k n m : Nat} (h : n ≤ lim k) (hm : m ≤ 200000) : n + m ≤ lim (k + 1) := by unfold lim at *; omega
theorem lim_le {k n c : Nat} (h : n ≤ lim k) (hk : k ≤ c) : n ≤ c * 200000 := Nat.le_trans h (Nat.mul_le_mul_right _ hk)

set_option maxRecDepth 100000 in
set_option maxHeartbeats 4000000 in
theorem rings30 (A : Option Addr) (cap : Nat) (es : List (S × Int × S)) (w : World) (hE : EdgeRow w A es) (hn : es.length ≤ 100000) (hs : ∀ e ∈ es, e.1.length ≤ 100000 ∧ e.2.2.length ≤ 100000) :
    Calls Try.prog 30 #[.slice A es.length cap] w fun e w' => ∃ A' c' gs, e = .returned (.slice A' gs.length c') ∧ gs.length ≤ c' ∧ gs.length ≤ 200000 ∧ RowsRow w' A' gs ∧ IsRings (ends es) gs ∧ Below w.heap.size w w' := by
  have hmm := @run_makeMap Try.prog
  obtain ⟨i9, hi9, hz90, hz91, hz92⟩ := info_parts info9
  obtain ⟨i22, hi22, hz220, hz221, hz222⟩ := info_parts info22
  have hEl : (ends es).length ≤ 100000 := by unfold ends; rw [List.length_map]; exact hn
  have hEs : ∀ e ∈ ends es, e.1.length ≤ 100000 ∧ e.2.length ≤ 100000 := by
    intro e he
    unfold ends at he
    obtain ⟨x, hx, rfl⟩ := List.mem_map.1 he
    exact hs x hx
  have H57 := Lib.hid (netOf57 A cap es w hE hn hs)
  obtain ⟨E, hEe⟩ : ∃ E, E = ends es := ⟨_, rfl⟩
  rw [← hEe] at H57 hEl hEs ⊢
  have HES := Lib.hid hEs
  clear hE hn hs hEs hEe
  go_enter Try.func30, Try.ntmps30
  go_upto_region 2 with (go_at_call 57; refine H57.out.mono ?_; rintro ee w1 ⟨rfl, hN1, hB1⟩; have HN1 := Lib.hid hN1; have HB1 := Lib.hid hB1; clear hN1 hB1)
  obtain ⟨v0, xs, bx, n0, f0, hp, hmx, hox, hX, hxl, _⟩ := HN1.out
  have hpl := (Array.getElem?_eq_some_iff.1 hp).1
  obtain ⟨Ax, cx, rfl⟩ := own_form hox
  have hrow := row_q (q_of_own hox)
  have hXS : ∀ x ∈ xs, x.length ≤ 100000 := fun x hx => by
    obtain ⟨y, hy | hy⟩ := (hX.2 x).1 hx
    · exact (HES.out _ hy).1
    · exact (HES.out _ hy).2
  have H63 := Lib.hid (ways63 (w.heap.size + 2) E xs w1 HN1.out hX hEl HES.out)
  have HP := Lib.hid hp
  have HROW := Lib.hid hrow
  have HX := Lib.hid hX
  have HXS := Lib.hid hXS
  clear hp hmx hox hX hrow hXS H57
  go_upto_region 3 with (go_at_call 63; refine H63.out.mono ?_; rintro ee w2 ⟨rfl, hW2, hB2⟩; have HW2 := Lib.hid hW2; have HB2 := Lib.hid hB2; clear hW2 hB2)
  go_upto_region 4 with (fail)
  obtain ⟨w3, hw3⟩ : ∃ w3, w3 = w2.alloc (.map #[] 0) := ⟨_, rfl⟩
  rw [← hw3]
  have hb3 : Below w2.heap.size w2 w3 := by rw [hw3]; exact (Below.refl _ w2).alloc (Nat.le_refl _) _
  have hz3 : w3.heap.size = w2.heap.size + 1 := by rw [hw3]; exact World.size_alloc _ _
  have hm3 : hmap w3 w2.heap.size 0 (metF [] []) := by rw [hw3]; exact (hmap_made w2).congr fun s => by simp [metF]
  have HP2 := Lib.hid ((HB2.out.block (w.heap.size + 2) hpl).trans HP.out)
  have hpl2 : Hid (w.heap.size + 2 < w2.heap.size) := Lib.hid (Array.getElem?_eq_some_iff.1 HP2.out).1
  have HROW2 := Lib.hid (HROW.out.below HB2.out (Nat.le_refl _))
  have HB3 := Lib.hid hb3
  have HM3 := Lib.hid hm3
  have k0 := cell_of_block (j := 0) ((hb3.block _ hpl2.out).trans HP2.out) rfl
  clear hb3 hm3 hw3 hmm
  go_wp2
  clear k0
  go_loopw [2, 21] (fun s2 i wr => ∃ (k : Nat) (A2 : Option Addr) (c2 : Nat) (gs : List (List S)) (vals : List Value), k ≤ xs.length ∧ i = .int .i64 k ∧ s2 = .slice A2 gs.length c2 ∧ gs.length ≤ c2 ∧ gs.length ≤ k ∧ gs.flatten.length ≤ lim k ∧ RS E xs k gs ∧
    hmap wr w2.heap.size gs.flatten.length (metF gs []) ∧ wr.ownsRow (w2.heap.size + 1) 22 1 (.slice A2 gs.length c2) gs.length vals ∧ Fin wr w2.heap.size (Value.slice A2 gs.length c2).ownBlock vals gs ∧ Below w2.heap.size w2 wr ∧ w2.heap.size + 1 ≤ wr.heap.size) (fun _ i _ => xs.length - (intOf i).toNat)
  case atStart =>
    refine ⟨0, none, 0, [], [], Nat.zero_le _, rfl, rfl, Nat.le_refl _, Nat.le_refl _, by simp [lim], RS.start, HM3.out, ?_, ⟨rfl, fun k g hg => by simp at hg⟩, HB3.out, by omega⟩
    simpa using World.ownsRow_nil w3 (w2.heap.size + 1) 22 1
  case round =>
    obtain ⟨k, A2, c2, gs, vals, hk, rfl, rfl, hle2, hgk, hfl, hRS, hM, hown, hF, hB, hz⟩ := hrel
    have HRS := Lib.hid hRS
    have HM := Lib.hid hM
    have HOWN := Lib.hid hown
    have HF := Lib.hid hF
    have HB := Lib.hid hB
    have HLE2 := Lib.hid hle2
    have HWR := Lib.hid (HW2.out.below hB (Nat.le_refl _))
    have HFL := Lib.hid hfl
    clear hRS hM hown hF hB hle2 hfl
    by_cases hlt : k < xs.length
    · obtain ⟨s, hsx⟩ : ∃ s, xs[k]? = some s := ⟨_, List.getElem?_eq_getElem hlt⟩
      obtain ⟨ax, rfl, hcs⟩ := (HROW2.out.below HB.out (Nat.le_refl _)) k s hsx
      have hsl := HXS.out s (List.mem_of_getElem? hsx)
      have hkb : k ≤ 1000000 := by omega
      have HSX := Lib.hid hsx
      have hsm : (U s).size ≤ maxLen := by rw [size_U]; unfold maxLen; omega
      have HSM := Lib.hid hsm
      clear hsx hsm
      have tok : True := trivial
      by_cases hdn : ∃ g, g ∈ gs ∧ s ∈ g
      · have hv : (metF gs [] (B (U s))).getD (.int .i64 0) = .int .i64 1 := by
          show (metF gs [] s).getD (.int .i64 0) = .int .i64 1
          unfold metF
          rw [if_pos (.inl (List.mem_flatten.2 hdn))]
          rfl
        have HV := Lib.hid hv
        have HDN := Lib.hid hdn
        clear hv hdn
        go_wp2_with (at_lookup; refine wpList_lookup_h _ rfl _ _ 84 rfl 3 Try.underlying84 (.int .i64 0) (zero3 _) w2.heap.size _ _ rfl HM.out (U s) rfl HSM.out (.int .i64 1) HV.out ?_)
        go_roundw
        case measure => simp [intOf]; omega
        case rel =>
          refine ⟨k + 1, A2, c2, gs, vals, hlt, by go_num, rfl, HLE2.out, by omega, lim_succ HFL.out, HRS.out.done HSX.out HDN.out, HM.out, HOWN.out, HF.out, HB.out, hz⟩
      · have hv : (metF gs [] (B (U s))).getD (.int .i64 0) = .int .i64 0 := by
          show (metF gs [] s).getD (.int .i64 0) = .int .i64 0
          unfold metF
          rw [if_neg (by rw [List.mem_flatten]; rintro (h | h); exact hdn h; cases h)]
          rfl
        have HV := Lib.hid hv
        have HDN := Lib.hid hdn
        clear hv hdn
        by_cases hcy : Cyc E s
        · have HCY := Lib.hid hcy
          have H64 := Lib.hid (leads64 HWR.out s s (List.mem_of_getElem? HSX.out) hsl hsl true ⟨fun _ => hcy, fun _ => rfl⟩)
          clear hcy
          have k0 := cell_of_block (j := 0) ((HB.out.block _ hpl2.out).trans HP2.out) rfl
          go_wp2_with (first
            | (at_lookup; refine wpList_lookup_h _ rfl _ _ 84 rfl 3 Try.underlying84 (.int .i64 0) (zero3 _) w2.heap.size _ _ rfl HM.out (U s) rfl HSM.out (.int .i64 0) HV.out ?_)
            | (go_at_call 64; (with_reducible refine (H64.out.mono ?_)); rintro ee wx ⟨rfl, rfl⟩))
          obtain ⟨wr0, rfl⟩ : ∃ wr0 : World, wr0 = wx := ⟨_, rfl⟩
          clear k0
          have hflb := lim_le (c := 200000) HFL.out (by omega)
          go_loopw [8, 41] (fun s8 i wi => ∃ (q : Nat) (A8 : Option Addr) (c8 : Nat), q ≤ xs.length ∧ i = .int .i64 q ∧ s8 = .slice A8 (ringOf E (xs.take q) s).length c8 ∧ (ringOf E (xs.take q) s).length ≤ c8 ∧
            hmap wi w2.heap.size (gs.flatten.length + (ringOf E (xs.take q) s).length) (metF gs (ringOf E (xs.take q) s)) ∧ wi.ownsRow wr0.heap.size 9 1 (.slice A8 (ringOf E (xs.take q) s).length c8) (ringOf E (xs.take q) s).length ((ringOf E (xs.take q) s).map encStr) ∧
            (∀ j, j < wr0.heap.size → j ≠ w2.heap.size → wi.heap[j]? = wr0.heap[j]?) ∧ wr0.heap.size ≤ wi.heap.size ∧ Below w2.heap.size w2 wi) (fun _ i _ => xs.length - (intOf i).toNat)
          case atStart =>
            refine ⟨0, none, 0, Nat.zero_le _, rfl, by simp [ringOf], by simp [ringOf], ?_, ?_, fun j _ _ => rfl, Nat.le_refl _, HB.out⟩
            · simpa [ringOf] using HM.out
            · simpa [ringOf] using World.ownsRow_nil wr0 wr0.heap.size 9 1
          case round =>
            obtain ⟨q, A8, c8, hq, rfl, rfl, hle8, hmi, howni, hkp, hsz, hBi⟩ := hrel
            have HMI := Lib.hid hmi
            have HOI := Lib.hid howni
            have HKP := Lib.hid hkp
            have HBI := Lib.hid hBi
            have HLE8 := Lib.hid hle8
            have HWI := Lib.hid (HW2.out.below hBi (Nat.le_refl _))
            clear hmi howni hkp hBi hle8
            by_cases hqt : q < xs.length
            · obtain ⟨t, htx⟩ : ∃ t, xs[q]? = some t := ⟨_, List.getElem?_eq_getElem hqt⟩
              obtain ⟨ax2, eax, hct⟩ := (HROW2.out.below HBI.out (Nat.le_refl _)) q t htx
              cases eax
              have htl := HXS.out t (List.mem_of_getElem? htx)
              have hqb : q ≤ 1000000 := by omega
              have HTX := Lib.hid htx
              have HTM : Hid ((U t).size ≤ maxLen) := Lib.hid (by rw [size_U]; unfold maxLen; omega)
              have hrt := ringOf_take E xs s q hqt
              have htq : xs[q] = t := (List.getElem?_eq_some_iff.1 htx).2
              rw [htq] at hrt
              have HRT := Lib.hid hrt
              obtain ⟨rg, hrg⟩ : ∃ rg, rg = ringOf E (xs.take q) s := ⟨_, rfl⟩
              have hrl : rg.length ≤ 200000 := by rw [hrg]; unfold ringOf; exact Nat.le_trans (List.length_filter_le _ _) (by rw [List.length_take]; omega)
              have hnr : ¬ t ∈ rg := fun hin => by
                rw [hrg] at hin
                have hin2 : t ∈ xs.take q := (List.mem_filter.1 hin).1
                exact Std.lt_irrefl (lt_of_take HX.out.1 htx hin2)
              have HNR := Lib.hid hnr
              rw [← hrg] at HMI HOI HLE8 HRT
              simp only [← hrg]
              clear hrt htq htx hrg hnr
              have HVN : Hid (Mut E s t → (metF gs rg (B (U t))).getD (.int .i64 0) = .int .i64 0) := Lib.hid (fun hm => by
                show (metF gs rg t).getD (.int .i64 0) = .int .i64 0
                unfold metF
                rw [if_neg (by rw [List.mem_flatten]; rintro (h | h); exact HRS.out.fresh hm HDN.out h; exact HNR.out h)]
                rfl)
              by_cases hmut : Mut E s t
              · have HMUT := Lib.hid hmut
                have HV2 := Lib.hid (HVN.out hmut)
                have hms : metF gs (rg ++ [t]) = metF gs (rg ++ [t]) := rfl
                clear hms
                have HRT2 := Lib.hid (show ringOf E (xs.take (q + 1)) s = rg ++ [t] by rw [HRT.out, if_pos hmut])
                by_cases hts : t = s
                · subst hts
                  have hbe := beq_U_true (rfl : t = t)
                  clear hmut
                  go_wp2_with (first
                    | (at_lookup; refine wpList_lookup_h _ rfl _ _ 84 rfl 3 Try.underlying84 (.int .i64 0) (zero3 _) w2.heap.size _ _ rfl HMI.out (U t) rfl HTM.out (.int .i64 0) HV2.out ?_)
                    | (at_mapUpdate; refine wpList_update_h _ rfl _ _ _ 84 rfl 3 Try.underlying84 w2.heap.size _ _ rfl HMI.out (by unfold maxLen; omega) (U t) rfl HTM.out (.int .i64 1) rfl ?_; intro w5 hm5 hg5; have HM5 := Lib.hid hm5; have HG5 := Lib.hid hg5; have HOI5 := Lib.hid (own_block HOI.out (fun b hb => hg5.block b (HOI.out.lt b hb).2 (fun e => by have := (HOI.out.lt b hb).1; have e2 := Option.some.inj e; omega))); have hz5 := hg5.size; clear hm5 hg5)
                    | (at_builtin; refine wpList_append_lies _ (by rfl) _ _ _ (by rfl) wr0.heap.size 9 i9 _ 1 16 Try.underlying22 hi9 hz90 hz91 hz92 rfl (by omega) (.slice A8 rg.length c8) _ _ (by rfl) (HOI5.out.alloc _) ⟨w5.heap.size, 0, none⟩ 1 1 [.string (U t)] (by rfl) (by rfl) (World.news_of_block (cs := #[.string (U t)]) (t := 9) (fr := (0, 0)) (heap_alloc_new w5 _)) (by simp [Value.oneCell']) (by omega) (by unfold maxLen; omega) (by omega) (by simp; omega) (w5.heap.size + 1) (by simp) ?_; intro gg cap' w6 hown6 hgrow6 hat6 hlt6; have HO6 := Lib.hid hown6; have HG6 := Lib.hid hgrow6; clear hown6 hgrow6 hat6 hlt6))
                  go_roundw
                  case measure => simp [intOf]; omega
                  case rel =>
                    obtain ⟨r1, r2, r3, r4, r5, r6⟩ := met_step (by omega) HM5.out HG5.out HOI.out HKP.out hsz HBI.out (Nat.le_refl _) HO6.out HG6.out
                    refine ⟨q + 1, some ⟨gg, 0, none⟩, cap', hqt, by go_num, by rw [HRT2.out]; simp, by rw [HRT2.out]; exact r1, by rw [HRT2.out]; exact r2, by rw [HRT2.out]; exact r3, r4, r5, r6⟩
                · have hbe := beq_U_false hts
                  have H1 := Lib.hid (leads64 HWI.out s t (List.mem_of_getElem? HSX.out) hsl htl true ⟨fun _ => conn_lead hmut.1 (fun c => hts c.symm), fun _ => rfl⟩)
                  have H2 := Lib.hid (leads64 HWI.out t s (List.mem_of_getElem? HTX.out) htl hsl true ⟨fun _ => conn_lead hmut.2 hts, fun _ => rfl⟩)
                  clear hmut
                  go_wp2_with (first
                    | (go_at_call 64; (with_reducible refine (H1.out.mono ?_)); rintro ee wy ⟨rfl, rfl⟩)
                    | (go_at_call 64; (with_reducible refine (H2.out.mono ?_)); rintro ee wz ⟨rfl, rfl⟩)
                    | (at_lookup; refine wpList_lookup_h _ rfl _ _ 84 rfl 3 Try.underlying84 (.int .i64 0) (zero3 _) w2.heap.size _ _ rfl HMI.out (U t) rfl HTM.out (.int .i64 0) HV2.out ?_)
                    | (at_mapUpdate; refine wpList_update_h _ rfl _ _ _ 84 rfl 3 Try.underlying84 w2.heap.size _ _ rfl HMI.out (by unfold maxLen; omega) (U t) rfl HTM.out (.int .i64 1) rfl ?_; intro w5 hm5 hg5; have HM5 := Lib.hid hm5; have HG5 := Lib.hid hg5; have HOI5 := Lib.hid (own_block HOI.out (fun b hb => hg5.block b (HOI.out.lt b hb).2 (fun e => by have := (HOI.out.lt b hb).1; have e2 := Option.some.inj e; omega))); have hz5 := hg5.size; clear hm5 hg5)
                    | (at_builtin; refine wpList_append_lies _ (by rfl) _ _ _ (by rfl) wr0.heap.size 9 i9 _ 1 16 Try.underlying22 hi9 hz90 hz91 hz92 rfl (by omega) (.slice A8 rg.length c8) _ _ (by rfl) (HOI5.out.alloc _) ⟨w5.heap.size, 0, none⟩ 1 1 [.string (U t)] (by rfl) (by rfl) (World.news_of_block (cs := #[.string (U t)]) (t := 9) (fr := (0, 0)) (heap_alloc_new w5 _)) (by simp [Value.oneCell']) (by omega) (by unfold maxLen; omega) (by omega) (by simp; omega) (w5.heap.size + 1) (by simp) ?_; intro gg cap' w6 hown6 hgrow6 hat6 hlt6; have HO6 := Lib.hid hown6; have HG6 := Lib.hid hgrow6; clear hown6 hgrow6 hat6 hlt6))
                  go_roundw
                  case measure => simp [intOf]; omega
                  case rel =>
                    obtain ⟨r1, r2, r3, r4, r5, r6⟩ := met_step (by omega) HM5.out HG5.out HOI.out HKP.out hsz HBI.out (Nat.le_refl _) HO6.out HG6.out
                    refine ⟨q + 1, some ⟨gg, 0, none⟩, cap', hqt, by go_num, by rw [HRT2.out]; simp, by rw [HRT2.out]; exact r1, by rw [HRT2.out]; exact r2, by rw [HRT2.out]; exact r3, r4, r5, r6⟩
              · have hts : t ≠ s := fun c => hmut (by rw [c]; exact Mut.refl E s)
                have hbe := beq_U_false hts
                have HRT2 := Lib.hid (show ringOf E (xs.take (q + 1)) s = rg by rw [HRT.out, if_neg hmut, List.append_nil])
                by_cases h1 : Lead E s t
                · have h2 : ¬ Lead E t s := fun c => hmut (mut_iff.1 (.inr ⟨h1, c⟩))
                  have H1 := Lib.hid (leads64 HWI.out s t (List.mem_of_getElem? HSX.out) hsl htl true ⟨fun _ => h1, fun _ => rfl⟩)
                  have H2 := Lib.hid (leads64 HWI.out t s (List.mem_of_getElem? HTX.out) htl hsl false ⟨fun h => (by cases h), fun h => absurd h h2⟩)
                  clear hmut h1 h2
                  go_wp2_with (first
                    | (go_at_call 64; (with_reducible refine (H1.out.mono ?_)); rintro ee wy ⟨rfl, rfl⟩)
                    | (go_at_call 64; (with_reducible refine (H2.out.mono ?_)); rintro ee wz ⟨rfl, rfl⟩))
                  go_roundw
                  case measure => simp [intOf]; omega
                  case rel => exact ⟨q + 1, A8, c8, hqt, by go_num, by rw [HRT2.out], by rw [HRT2.out]; exact HLE8.out, by rw [HRT2.out]; exact HMI.out, by rw [HRT2.out]; exact HOI.out, HKP.out, hsz, HBI.out⟩
                · have H1 := Lib.hid (leads64 HWI.out s t (List.mem_of_getElem? HSX.out) hsl htl false ⟨fun h => (by cases h), fun h => absurd h h1⟩)
                  clear hmut h1
                  go_wp2_with (go_at_call 64; (with_reducible refine (H1.out.mono ?_)); rintro ee wy ⟨rfl, rfl⟩)
                  go_roundw
                  case measure => simp [intOf]; omega
                  case rel => exact ⟨q + 1, A8, c8, hqt, by go_num, by rw [HRT2.out], by rw [HRT2.out]; exact HLE8.out, by rw [HRT2.out]; exact HMI.out, by rw [HRT2.out]; exact HOI.out, HKP.out, hsz, HBI.out⟩
            · have hqe : q = xs.length := by omega
              subst hqe
              rw [List.take_length] at HMI HOI HLE8
              simp only [List.take_length]
              have hrl : (ringOf E xs s).length ≤ 200000 := by unfold ringOf; exact Nat.le_trans (List.length_filter_le _ _) (by omega)
              have HNEW := Lib.hid (HRS.out.new HX.out HSX.out HCY.out HDN.out)
              obtain ⟨rg, hrg⟩ : ∃ rg, rg = ringOf E xs s := ⟨_, rfl⟩
              rw [← hrg] at HMI HOI HLE8 HNEW hrl
              simp only [← hrg]
              clear hrg
              have HO2 := Lib.hid (own_block HOWN.out (fun b hb => HKP.out b (HOWN.out.lt b hb).2 (by have := (HOWN.out.lt b hb).1; omega)))
              go_wp2_with (at_builtin; refine wpList_append_lies _ (by rfl) _ _ _ (by rfl) (w2.heap.size + 1) 22 i22 _ 1 24 Try.underlying51 hi22 hz220 hz221 hz222 rfl (by omega) (.slice A2 gs.length c2) _ _ (by rfl) (HO2.out.alloc _) ⟨wr.heap.size, 0, none⟩ 1 1 [.slice A8 rg.length c8] (by rfl) (by rfl) (World.news_of_block (cs := #[.slice A8 rg.length c8]) (t := 22) (fr := (0, 0)) (heap_alloc_new wr _)) (by simp [Value.oneCell']) (by omega) (by unfold maxLen; omega) (by omega) (by simp; omega) (wr.heap.size + 1) (by simp) ?_; intro gg cap' w7 hown7 hgrow7 hat7 hlt7; have HO7 := Lib.hid hown7; have HG7 := Lib.hid hgrow7; have HA7 := Lib.hid hat7; clear hown7 hgrow7 hat7 hlt7)
              go_roundw
              case measure => simp [intOf]; omega
              case rel =>
                obtain ⟨r1, r2, r3, r4, r5, r6⟩ := ring_end (by omega) HF.out HOWN.out HKP.out hsz HBI.out (Nat.le_refl _) HMI.out HOI.out HLE8.out HO7.out HG7.out HA7.out
                exact ⟨k + 1, some ⟨gg, 0, none⟩, cap', gs ++ [rg], vals ++ [.slice A8 rg.length c8], hlt, by go_num, by simp, r1, by simp; omega, by rw [List.flatten_append, List.length_append]; exact lim_add HFL.out (by simpa using hrl), HNEW.out, r2, r3, r4, r5, r6⟩
        · have HCY := Lib.hid hcy
          have H64 := Lib.hid (leads64 HWR.out s s (List.mem_of_getElem? HSX.out) hsl hsl false ⟨fun h => (by cases h), fun h => absurd h hcy⟩)
          clear hcy
          go_wp2_with (first
            | (at_lookup; refine wpList_lookup_h _ rfl _ _ 84 rfl 3 Try.underlying84 (.int .i64 0) (zero3 _) w2.heap.size _ _ rfl HM.out (U s) rfl HSM.out (.int .i64 0) HV.out ?_)
            | (go_at_call 64; (with_reducible refine (H64.out.mono ?_)); rintro ee wx ⟨rfl, rfl⟩))
          go_roundw
          case measure => simp [intOf]; omega
          case rel =>
            refine ⟨k + 1, A2, c2, gs, vals, hlt, by go_num, rfl, HLE2.out, by omega, lim_succ HFL.out, HRS.out.nocyc HSX.out HCY.out, HM.out, HOWN.out, HF.out, HB.out, hz⟩
    · have hke : k = xs.length := by omega
      subst hke
      go_wp2_with fail
      go_ret
      have hs1 := HB1.out.size
      have hs2 := HB2.out.size
      exact ⟨A2, c2, gs, rfl, HLE2.out, by omega, HF.out.rows HOWN.out, HRS.out.all HX.out, HB1.out.trans ((HB2.out.mono hs1).trans (HB.out.mono (Nat.le_trans hs1 hs2)))⟩
end Go.Proofs.Ytljfknneijmfoaa
namespace Go.Proofs.Ytljfknneijmfoaa
open Go.RowKit Go.Maps Go.WideMaps Go.Lib
open Go.Proofs.YtljfknneijmfoaaW.PrintWords (q_of_own q_slice q_cells add_at)

/-- The two edges that the law's own check makes. -/
def ab : List (S × Int × S) := [([97], 0, [98]), ([98], 0, [97])]

theorem mem_ab {e : S × S} : e ∈ ends ab ↔ e = ([97], [98]) ∨ e = ([98], [97]) := by
  show e ∈ [(([97] : S), ([98] : S)), ([98], [97])] ↔ _
  simp

theorem ring_ab : IsRing (ends ab) [[97], [98]] := by
  have h1 : (([97] : S), ([98] : S)) ∈ ends ab := mem_ab.2 (.inl rfl)
  have h2 : (([98] : S), ([97] : S)) ∈ ends ab := mem_ab.2 (.inr rfl)
  refine ⟨?_, [97], ⟨[98], h1, .edge h2⟩, fun t => ⟨fun h => ?_, fun h => ?_⟩⟩
  · unfold SS
    refine List.pairwise_cons.2 ⟨fun x hx => ?_, List.pairwise_singleton _ _⟩
    simp at hx
    subst hx
    decide
  · simp at h
    rcases h with rfl | rfl
    · exact .refl _ _
    · exact ⟨.edge h1, .edge h2⟩
  · obtain ⟨⟨n, hw⟩, _⟩ := h
    cases n with
    | zero => cases hw; simp
    | succ n =>
      obtain ⟨b, _, hb⟩ := hw.unsnoc
      rcases mem_ab.1 hb with h | h
      · simp at h; simp [h.2]
      · simp at h; simp [h.2]

theorem rings_ab {gs : List (List S)} (h : IsRings (ends ab) gs) : gs = [[[97], [98]]] := by
  refine h.uniq ⟨List.pairwise_singleton _ _, fun g => ⟨fun hg => ?_, fun r => ?_⟩⟩
  · simp at hg
    subst hg
    exact ring_ab
  · obtain ⟨x, hx⟩ := List.exists_mem_of_ne_nil g r.ne_nil
    obtain ⟨y, hy, _⟩ := r.cyc hx
    have hxm : x ∈ ([[97], [98]] : List S) := by
      rcases mem_ab.1 hy with h | h
      · simp at h; simp [h.1]
      · simp at h; simp [h.1]
    have := r.eq_of_mem ring_ab hx hxm
    subst this
    simp

theorem way_ac {base : Nat} {w' : World} {v : Value} {c : Int} (h : WayAns base w' (ends ab) [97] [99] v c) : c = 11 ∧ v = .slice none 0 0 := by
  rcases h with ⟨_, ps, d, hg, hh, _⟩ | ⟨hc, hv, _⟩
  · exfalso
    match ps, hh with
    | a :: q, hh =>
      cases hh
      obtain ⟨s, hs, hcn⟩ := dist_conn hg.dist
      simp at hs
      subst hs
      obtain ⟨n, hw⟩ := conn_rev.1 hcn
      cases n with
      | zero => cases hw
      | succ n =>
        obtain ⟨b, _, hb⟩ := hw.unsnoc
        rcases mem_ab.1 hb with h | h
        · simp at h
        · simp at h
  · exact ⟨hc, hv⟩

theorem edges_ab (w : World) : EdgeRow (w.alloc (.cells #[.string ⟨#[97]⟩, .int .i64 0, .string ⟨#[98]⟩, .string ⟨#[98]⟩, .int .i64 0, .string ⟨#[97]⟩] 50)) (some ⟨w.heap.size, 0, none⟩) ab := by
  have hc := heap_alloc_new w (.cells #[.string ⟨#[97]⟩, .int .i64 0, .string ⟨#[98]⟩, .string ⟨#[98]⟩, .int .i64 0, .string ⟨#[97]⟩] 50)
  intro k e he
  have hk : k < 2 := (List.getElem?_eq_some_iff.1 he).1
  refine ⟨_, rfl, ?_⟩
  match k, hk with
  | 0, _ =>
    cases he
    exact ⟨cell_of_block (j := 0) hc rfl, cell_of_block (j := 1) hc rfl, cell_of_block (j := 2) hc rfl⟩
  | 1, _ =>
    cases he
    exact ⟨cell_of_block (j := 3) hc rfl, cell_of_block (j := 4) hc rfl, cell_of_block (j := 5) hc rfl⟩

set_option maxRecDepth 100000 in
set_option maxHeartbeats 4000000 in
theorem awake26 (w : World) : Calls Try.prog 26 #[] w fun e w' => e = .returned (.bool true) ∧ Below w.heap.size w w' := by
  have hE := edges_ab w
  go_enter Try.func26, Try.ntmps26
  go_upto_region 2 with (fail)
  obtain ⟨W, hW⟩ : ∃ W, W = w.alloc (.cells #[.string ⟨#[97]⟩, .int .i64 0, .string ⟨#[98]⟩, .string ⟨#[98]⟩, .int .i64 0, .string ⟨#[97]⟩] 50) := ⟨_, rfl⟩
  rw [← hW] at hE ⊢
  have b0 : Below w.heap.size w W := by rw [hW]; exact (Below.refl _ w).alloc (Nat.le_refl _) _
  have HE := Lib.hid hE
  have z0 := b0.size
  clear hW hE
  have hsz : ∀ e ∈ ab, e.1.length ≤ 100000 ∧ e.2.2.length ≤ 100000 := by
    intro e he
    simp [ab] at he
    rcases he with rfl | rfl <;> simp
  have HSZ := Lib.hid hsz
  clear hsz
  go_upto_region 3 with (go_at_call 30; refine (rings30 (some ⟨w.heap.size, 0, none⟩) 2 ab W HE.out (by simp [ab]) HSZ.out).mono ?_; rintro ee w1 ⟨A1, c1, gs, rfl, hle, _, hR, hI, hB1⟩; have HR := Lib.hid hR; have HI := Lib.hid hI; have HB1 := Lib.hid hB1; have HLE := Lib.hid hle; clear hR hI hB1 hle)
  have hg := rings_ab HI.out
  subst hg
  obtain ⟨ad, A2, c2, rfl, hcell, hle2, hrow⟩ := HR.out 0 _ rfl
  have z1 := HB1.out.size
  have HE1 := Lib.hid (HE.out.below HB1.out (Nat.le_refl _))
  have HCELL := Lib.hid hcell
  clear hcell hrow HR HI HLE
  go_upto_region 4 with (go_at_call 27; refine (path27' (some ⟨w.heap.size, 0, none⟩) 2 ab [97] [99] w1 HE1.out (by simp [ab]) (by simp [ab]) HSZ.out (by simp) (by simp)).mono ?_; rintro ee w2 ⟨v2, cc2, rfl, hWA, hB2⟩; obtain ⟨rfl, rfl⟩ := way_ac hWA; have HB2 := Lib.hid hB2; clear hWA hB2)
  have z2 := HB2.out.size
  have hcl := World.block_lt_of_cell? _ _ HCELL.out
  have hy0 : w2.cell? ad = some (.slice A2 2 c2) := by
    have h := (HB2.out.cell hcl).trans HCELL.out
    simp [Addr.add] at h
    exact h
  clear HCELL hcl
  have hbe : (dotNil.toList == [100, 105, 103, 114, 97, 112, 104, 32, 123, 10, 125, 10]) = true := by unfold dotNil; simp
  go_wp2_with (go_at_call 48; refine (dotNil48 w2).mono ?_; rintro ee w3 ⟨rfl, hB3⟩; have HB3 := Lib.hid hB3; clear hB3)
  go_ret
  exact ⟨rfl, b0.trans ((HB1.out.mono z0).trans ((HB2.out.mono (by omega)).trans (HB3.out.mono (by omega))))⟩
end Go.Proofs.Ytljfknneijmfoaa
