import Derived.Test.YtljfknneijmfoaaPts
namespace Go.Proofs.Ytljfknneijmfoaa
open Go.RowKit Go.Maps Go.WideMaps Go.Lib
open Go.Proofs.YtljfknneijmfoaaW.PrintWords (q_of_own q_slice)

/-- By one edge at least. -/
def Lead (E : Es) (s x : S) : Prop := ∃ y, (s, y) ∈ E ∧ Conn E y x

theorem lead_iff {E : Es} {s x : S} {ys : List S} {out : S → Option Nat} (hy : IsNext E s ys) (ho : ∀ x d, out x = some d ↔ Dist E ys x d) : (out x).isSome = true ↔ Lead E s x := by
  rw [Option.isSome_iff_exists]
  constructor
  · rintro ⟨d, hd⟩
    obtain ⟨y, hy', hc⟩ := dist_conn ((ho x d).1 hd)
    exact ⟨y, (hy.2 y).1 hy', hc⟩
  · rintro ⟨y, hy', hc⟩
    obtain ⟨d, hd⟩ := conn_dist ((hy.2 y).2 hy') hc
    exact ⟨d, (ho x d).2 hd⟩

/-- The map of maps of what can be come to, of the nodes given. -/
def WaysAt (w : World) (b base : Nat) (E : Es) (N : Nat) (nodes : List S) : Prop :=
  ∃ bm : S → Nat, hmap w b N (fun s => if s ∈ nodes then some (.map (some (bm s))) else none) ∧
    ∀ s, s ∈ nodes → base ≤ bm s ∧ ∃ out M, hmap w (bm s) M (dmap out) ∧ ∀ x, (out x).isSome = true ↔ Lead E s x

theorem WaysAt.below {w w' : World} {b base k N : Nat} {E : Es} {nodes : List S} (h : WaysAt w b base E N nodes) (hB : Below k w w') (hk : w.heap.size ≤ k) : WaysAt w' b base E N nodes := by
  obtain ⟨bm, hm, ho⟩ := h
  refine ⟨bm, hm.below hB (by have := hm.lt; omega), fun s hs => ?_⟩
  obtain ⟨h1, out, M, h2, h3⟩ := ho s hs
  exact ⟨h1, out, M, h2.below hB (by have := h2.lt; omega), h3⟩

theorem zero84 (w : World) : (zeroValue 84).run Try.prog w = .ok (.map none) w := by kernel_rfl

set_option maxRecDepth 100000 in
theorem ways63 (p : Nat) (E : Es) (xs : List S) (w : World) (hN : NetAt w p E) (hX : IsNodes E xs) (hE : E.length ≤ 100000) (he : ∀ e ∈ E, e.1.length ≤ 100000 ∧ e.2.length ≤ 100000) :
    Calls Try.prog 63 #[.pointer (some ⟨p, 0, none⟩)] w fun e w' => e = .returned (.map (some w.heap.size)) ∧ WaysAt w' w.heap.size (w.heap.size + 1) E xs.length xs ∧ Below w.heap.size w w' := by
  have hmm := @run_makeMap Try.prog
  have hN0 := hN
  obtain ⟨v, xs', bx, n, f, hp, hm, ho, hx', hxl, hnx⟩ := hN
  have hxx := hx'.uniq hX
  subst hxx
  have hpl : p < w.heap.size := (Array.getElem?_eq_some_iff.1 hp).1
  have hxs : ∀ x ∈ xs', x.length ≤ 100000 := fun x hx => by
    obtain ⟨y, hy | hy⟩ := (hX.2 x).1 hx
    · exact (he _ hy).1
    · exact (he _ hy).2
  obtain ⟨Av, cv, rfl⟩ := own_form ho
  have hrow := row_q (q_of_own ho)
  have HN := Lib.hid hN0
  have HP := Lib.hid hp
  have HM := Lib.hid hm
  have HROW := Lib.hid hrow
  have HNX := Lib.hid hnx
  have HXS := Lib.hid hxs
  have HE := Lib.hid he
  have HLT := Lib.hid hm.lt
  clear hN0 hp hm ho hx' hnx hxs he hX hrow
  go_enter Try.func63, Try.ntmps63
  go_upto_region 2 with (fail)
  obtain ⟨w1, hw1⟩ : ∃ w1, w1 = w.alloc (.map #[] 0) := ⟨_, rfl⟩
  rw [← hw1]
  have hb1 : Below w.heap.size w w1 := by rw [hw1]; exact (Below.refl _ w).alloc (Nat.le_refl _) _
  have hz1 : w1.heap.size = w.heap.size + 1 := by rw [hw1]; exact World.size_alloc _ _
  have hm1 : hmap w1 w.heap.size 0 (fun _ => none) := by rw [hw1]; exact hmap_made w
  have hp1 := (hb1.block p hpl).trans HP.out
  have k0 := cell_of_block (j := 0) hp1 rfl
  have HB1 := Lib.hid hb1
  have HM1 := Lib.hid hm1
  clear hb1 hm1 hp1 hw1 hmm
  go_wp2
  clear k0
  go_loopw [12] (fun i wr => ∃ k : Nat, k ≤ xs'.length ∧ i = .int .i64 k ∧ WaysAt wr w.heap.size (w.heap.size + 1) E k (xs'.take k) ∧ Below w.heap.size w wr ∧ w.heap.size + 1 ≤ wr.heap.size) (fun i _ => xs'.length - (intOf i).toNat)
  case atStart =>
    refine ⟨0, Nat.zero_le _, rfl, ⟨fun _ => 0, ?_, fun s hs => by simp at hs⟩, HB1.out, by omega⟩
    exact HM1.out.congr fun s => by simp
  case round =>
    obtain ⟨k, hk, rfl, hW, hB, hz⟩ := hrel
    have HW := Lib.hid hW
    have HB := Lib.hid hB
    clear hW hB
    by_cases hlt : k < xs'.length
    · obtain ⟨x, hx⟩ : ∃ x, xs'[k]? = some x := ⟨_, List.getElem?_eq_getElem hlt⟩
      obtain ⟨ad, rfl, hc⟩ := (HROW.out.below HB.out (Nat.le_refl _)) k x hx
      have hp1 := (HB.out.block p hpl).trans HP.out
      have k1 := cell_of_block (j := 1) hp1 rfl
      have hxlen := HXS.out x (List.mem_of_getElem? hx)
      have hxm : (U x).size ≤ maxLen := by rw [size_U]; unfold maxLen; omega
      obtain ⟨ys, hys, hyl, hyo⟩ := HNX.out x
      obtain ⟨A2, c2, hv2⟩ := own_form hyo
      rw [hv2] at hyo
      have hyr := (row_q (q_of_own hyo)).below HB.out (Nat.le_refl _)
      have hys100 : ∀ y ∈ ys, y.length ≤ 100000 := fun y hy => (HE.out _ ((hys.2 y).1 hy)).2
      have HF := Lib.hid (far59 p E A2 c2 ys wr (HN.out.below HB.out (Nat.le_refl _)) hyr hyl hE hys100 HE.out)
      have HMX := Lib.hid (HM.out.below HB.out HLT.out)
      have HV2 : Hid ((f (B (U x))).getD (.slice none 0 0) = .slice A2 ys.length c2) := Lib.hid hv2
      have HXM := Lib.hid hxm
      have HYS := Lib.hid hys
      have HX := Lib.hid hx
      have hkb : k ≤ 1000000 := by omega
      obtain ⟨bm, hm0, ho0⟩ := HW.out
      have HM0 := Lib.hid hm0
      have HO0 := Lib.hid ho0
      clear hp1 hxlen hxm hys hyo hyr hys100 hv2 hx hm0 ho0
      go_wp2_with (first
        | (at_lookup; refine wpList_lookup_h _ rfl _ _ 88 rfl 22 Try.underlying88 (.slice none 0 0) (zero22 _) bx n f rfl HMX.out (U x) rfl HXM.out (.slice A2 ys.length c2) HV2.out ?_)
        | (go_at_call 59; refine HF.out.mono ?_; rintro ee w2 ⟨rfl, ⟨out, M, hmo, _, _, hdo⟩, hB2⟩; have HMO := Lib.hid hmo; have HDO := Lib.hid hdo; have HB2 := Lib.hid hB2; have HM2 := Lib.hid (HM0.out.below hB2 (by omega)); clear hmo hdo hB2)
        | (at_mapUpdate; refine wpList_update_h _ rfl _ _ _ 96 rfl 84 Try.underlying96 w.heap.size _ _ rfl HM2.out (by unfold maxLen; omega) (U x) rfl HXM.out (.map (some wr.heap.size)) rfl ?_; intro w3 hm3 hg3; have HM3 := Lib.hid hm3; have HG3 := Lib.hid hg3; clear hm3 hg3))
      go_roundw
      case measure => simp [intOf]; omega
      case rel =>
        have hB2 := HB2.out
        have hg3 := HG3.out
        refine ⟨k + 1, hlt, by go_num, ⟨fun s => if s = x then wr.heap.size else bm s, ?_, ?_⟩, ?_, ?_⟩
        · refine HM3.out.congr fun s => ?_
          rw [List.take_add_one, HX.out]
          unfold upd
          rw [B_U]
          by_cases e : s = x
          · simp [e]
          · by_cases h : s ∈ xs'.take k
            · simp [e, h]
            · simp [e, h]
        · intro s hs
          by_cases e : s = x
          · subst e
            refine ⟨by simp; omega, out, M, ?_, fun y => lead_iff HYS.out HDO.out⟩
            simp only [if_true]
            exact HMO.out.kept hg3 (by simp; omega)
          · have hs' : s ∈ xs'.take k := by
              rw [List.take_add_one, HX.out] at hs
              simpa [e] using hs
            obtain ⟨q1, out', M', q2, q3⟩ := HO0.out s hs'
            refine ⟨by simp only [if_neg e]; exact q1, out', M', ?_, q3⟩
            simp only [if_neg e]
            exact (q2.below hB2 q2.lt).kept hg3 (by simp; omega)
        · exact (HB.out.trans (hB2.mono HB.out.size)).grown hg3 (by have := hB2.size; omega) (fun j hj => by cases hj; exact Nat.le_refl _)
        · have := hB2.size
          have := hg3.size
          omega
    · have hke : k = xs'.length := by omega
      subst hke
      go_wp2_with fail
      go_ret
      have hw := HW.out
      rw [List.take_length] at hw
      exact ⟨rfl, hw, HB.out⟩

set_option maxRecDepth 100000 in
/-- leads: one answer, told by whether it can be come to. -/
theorem leads64 {w : World} {b base N : Nat} {E : Es} {nodes : List S} (h : WaysAt w b base E N nodes) (s x : S) (hs : s ∈ nodes) (hsl : s.length ≤ 100000) (hxl : x.length ≤ 100000) (t : Bool) (ht : t = true ↔ Lead E s x) :
    Calls Try.prog 64 #[.map (some b), .string (U s), .string (U x)] w fun e w' => e = .returned (.bool t) ∧ w' = w := by
  obtain ⟨bm, hm, ho⟩ := h
  obtain ⟨_, out, M, hmo, hout⟩ := ho s hs
  have hv : ((fun q => if q ∈ nodes then some (Value.map (some (bm q))) else none) (B (U s))).getD (.map none) = .map (some (bm s)) := by
    show (if s ∈ nodes then some (Value.map (some (bm s))) else none).getD (.map none) = _
    rw [if_pos hs]
    rfl
  have hok : ((dmap out) (B (U x))).isSome = t := by
    show ((out x).map _).isSome = t
    rw [Option.isSome_map, Bool.eq_iff_iff, hout, ht]
  have HM := Lib.hid hm
  have HMO := Lib.hid hmo
  have HV := Lib.hid hv
  have HOK := Lib.hid hok
  have hs1 : (U s).size ≤ maxLen := by rw [size_U]; unfold maxLen; omega
  have hx1 : (U x).size ≤ maxLen := by rw [size_U]; unfold maxLen; omega
  have HS1 := Lib.hid hs1
  have HX1 := Lib.hid hx1
  clear hm ho hmo hout hv hok hs1 hx1 ht
  go_enter Try.func64, Try.ntmps64
  go_wp2_with (first
    | (at_lookup; refine wpList_lookup_h _ rfl _ _ 96 rfl 84 Try.underlying96 (.map none) (zero84 _) b N _ rfl HM.out (U s) rfl HS1.out (.map (some (bm s))) HV.out ?_)
    | (at_lookup; refine wpList_lookup_ok_h _ rfl _ _ 84 rfl 3 Try.underlying84 (.int .i64 0) (zero3 _) (bm s) M _ rfl HMO.out (U x) rfl HX1.out _ rfl t HOK.out ?_))
  go_ret
  exact ⟨rfl, rfl⟩

theorem lead_conn {E : Es} {s x : S} (h : Lead E s x) : Conn E s x := by
  obtain ⟨y, hy, hc⟩ := h
  exact (Conn.edge hy).trans hc

theorem conn_lead {E : Es} {s x : S} (h : Conn E s x) (hne : s ≠ x) : Lead E s x := by
  obtain ⟨n, hw⟩ := h
  cases hw with
  | nil => exact absurd rfl hne
  | cons h1 h2 => exact ⟨_, h1, _, h2⟩

theorem lead_self {E : Es} {s : S} : Lead E s s ↔ Cyc E s := Iff.rfl

/-- Who goes in a ring with s. -/
theorem mut_iff {E : Es} {s t : S} : (t = s ∨ (Lead E s t ∧ Lead E t s)) ↔ Mut E s t := by
  constructor
  · rintro (rfl | ⟨h1, h2⟩)
    · exact Mut.refl E _
    · exact ⟨lead_conn h1, lead_conn h2⟩
  · rintro ⟨h1, h2⟩
    by_cases e : t = s
    · exact .inl e
    · exact .inr ⟨conn_lead h1 (fun c => e c.symm), conn_lead h2 e⟩
end Go.Proofs.Ytljfknneijmfoaa
