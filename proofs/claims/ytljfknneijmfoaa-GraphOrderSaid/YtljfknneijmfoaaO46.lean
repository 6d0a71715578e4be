import Derived.Test.YtljfknneijmfoaaOrdP
namespace Go.Proofs.Ytljfknneijmfoaa
open Go.RowKit Go.Maps Go.WideMaps Go.Lib
open Go.Proofs.YtljfknneijmfoaaW.PrintWords (q_of_own q_slice q_cells add_at)

theorem keep7 {w w' : World} {base : Nat} {v : Value} {n : Nat} {xs : List Value} {o : Obj} (h : w.ownsRow base 9 1 v n xs) (hg : (w.alloc o).grownBy w' v.ownBlock) (hb : base ≤ w.heap.size) : ∀ j, j < base → w'.heap[j]? = w.heap[j]? := fun j hj => by
  rw [hg.block j (by rw [World.size_alloc]; omega) (fun e => by have := (h.lt j e.symm).1; omega), Below.heap_alloc _ _ _ (by omega)]

def lenOf : Value → Nat
  | .slice _ n _ => n
  | _ => 0

set_option maxRecDepth 100000 in
set_option maxHeartbeats 4000000 in
theorem order46 (A : Option Addr) (cap : Nat) (es : List (S × Int × S)) (w : World) (hE : EdgeRow w A es) (hn : es.length ≤ 100000) (hs : ∀ e ∈ es, e.1.length ≤ 100000 ∧ e.2.2.length ≤ 100000) :
    Calls Try.prog 46 #[.slice A es.length cap] w fun e w' => ∃ A' c' out xs, e = .returned (.slice A' out.length c') ∧ out.length ≤ c' ∧ out.length ≤ 200000 ∧ StrRow w' A' out ∧ IsNodes (ends es) xs ∧ Ord (ends es) xs out ∧ Below w.heap.size w w' := by
  obtain ⟨i9, hi9, hz90, hz91, hz92⟩ := info_parts info9
  have hEl : (ends es).length ≤ 100000 := by unfold ends; rw [List.length_map]; exact hn
  have hEs : ∀ e ∈ ends es, e.1.length ≤ 100000 ∧ e.2.length ≤ 100000 := by
    intro e he
    unfold ends at he
    obtain ⟨x, hx, rfl⟩ := List.mem_map.1 he
    exact hs x hx
  have H57 := Lib.hid (netOf57 A cap es w hE hn hs)
  obtain ⟨E, hEe⟩ : ∃ E, E = ends es := ⟨_, rfl⟩
  rw [← hEe] at H57 hEl hEs ⊢
  have HES := Lib.hid hEs
  clear hE hn hs hEs hEe
  go_enter Try.func46, Try.ntmps46
  go_upto_region 2 with (go_at_call 57; refine H57.out.mono ?_; rintro ee w1 ⟨rfl, hN1, hB1⟩; have HN1 := Lib.hid hN1; have HB1 := Lib.hid hB1; clear hN1 hB1)
  obtain ⟨v0, xs, bx, n0, f0, hp, hmx, hox, hX, hxl, _⟩ := HN1.out
  have hpl := (Array.getElem?_eq_some_iff.1 hp).1
  obtain ⟨Ax, cx, rfl⟩ := own_form hox
  have hXS : ∀ x ∈ xs, x.length ≤ 100000 := fun x hx => by
    obtain ⟨y, hy | hy⟩ := (hX.2 x).1 hx
    · exact (HES.out _ hy).1
    · exact (HES.out _ hy).2
  have H63 := Lib.hid (ways63 (w.heap.size + 2) E xs w1 HN1.out hX hEl HES.out)
  have HP := Lib.hid hp
  have HOX := Lib.hid hox
  have HX := Lib.hid hX
  have HXS := Lib.hid hXS
  clear hp hmx hox hX hXS H57
  go_upto_region 3 with (go_at_call 63; refine H63.out.mono ?_; rintro ee w2 ⟨rfl, hW2, hB2⟩; have HW2 := Lib.hid hW2; have HB2 := Lib.hid hB2; clear hW2 hB2)
  obtain ⟨w3, hw3⟩ : ∃ w3, w3 = w2.alloc (.cells #[.map (some w1.heap.size)] 96) := ⟨_, rfl⟩
  rw [← hw3]
  have hb3 : Below w2.heap.size w2 w3 := by rw [hw3]; exact (Below.refl _ w2).alloc (Nat.le_refl _) _
  have hz3 : w3.heap.size = w2.heap.size + 1 := by rw [hw3]; exact World.size_alloc _ _
  have hc3 : w3.cell? ⟨w2.heap.size, 0, none⟩ = some (.map (some w1.heap.size)) := by rw [hw3]; exact cell_of_block (j := 0) (heap_alloc_new w2 _) rfl
  have HC3 := Lib.hid hc3
  have z2 := HB2.out.size
  have HP3 := Lib.hid ((hb3.block _ (by omega)).trans ((HB2.out.block (w.heap.size + 2) hpl).trans HP.out))
  have HOX3 := Lib.hid (own_below (own_below HOX.out HB2.out (Nat.le_refl _)) hb3 (Nat.le_refl _))
  have HW3 := Lib.hid (HW2.out.below hb3 (Nat.le_refl _))
  have HB3 := Lib.hid (HB1.out.trans ((HB2.out.trans (hb3.mono z2)).mono HB1.out.size))
  have H72 := Lib.hid (clone72 HOX3.out (by omega))
  have k0 := cell_of_block (j := 0) HP3.out rfl
  clear hw3 hc3 hb3 HP HB2 H63 HW2 HN1 HOX
  go_upto_region 4 with (go_at_call 72; refine H72.out.mono ?_; rintro ee w4 ⟨A4, c4, rfl, hL4, hB4⟩; have HL4 := Lib.hid hL4; have HB4 := Lib.hid hB4; clear hL4 hB4)
  obtain ⟨w5, hw5⟩ : ∃ w5, w5 = w4.alloc (.cells #[.slice A4 xs.length c4] 22) := ⟨_, rfl⟩
  rw [← hw5]
  have hb5 : Below w4.heap.size w4 w5 := by rw [hw5]; exact (Below.refl _ w4).alloc (Nat.le_refl _) _
  have hz5 : w5.heap.size = w4.heap.size + 1 := by rw [hw5]; exact World.size_alloc _ _
  have hc5 : w5.heap[w4.heap.size]? = some (.cells #[.slice A4 xs.length c4] 22) := by rw [hw5]; exact heap_alloc_new w4 _
  have HC5 := Lib.hid hc5
  have z4 := HB4.out.size
  have HB5 := Lib.hid (HB4.out.trans (hb5.mono z4))
  have HL5 : Hid (LeftRow w5 w3.heap.size A4 xs c4) := Lib.hid (HL4.out.kept (by omega) (fun b _ hb => hb5.block b hb))
  have hA4 : ∀ b, A4 = some ⟨b, 0, none⟩ → b < w4.heap.size ∨ xs = [] := fun b hb => by
    rcases HL4.out.2.2 with h | ⟨blk, e, _, h2, _⟩
    · exact .inr h
    · rw [e] at hb; injection hb with hb; injection hb with hb _ _; exact .inl (by omega)
  have HA4 := Lib.hid hA4
  clear hw5 hc5 hb5 H72 HL4 HB4 k0 hA4
  go_loopw [2, 6] (fun s2 _ wr => ∃ (left out : List S) (A2 : Option Addr) (c2 : Nat), s2 = .slice A2 out.length c2 ∧ wr.ownsRow w5.heap.size 9 1 (.slice A2 out.length c2) out.length (out.map encStr) ∧
    wr.heap[w4.heap.size]? = some (.cells #[.slice A4 left.length c4] 22) ∧ LeftRow wr w3.heap.size A4 left c4 ∧ SS left ∧ (∀ x ∈ left, x ∈ xs) ∧ out.length + left.length = xs.length ∧ (∀ rest, Ord E left rest → Ord E xs (out ++ rest)) ∧
    Below w3.heap.size w3 wr ∧ w5.heap.size ≤ wr.heap.size) (fun s2 _ _ => xs.length - lenOf s2)
  case atStart =>
    exact ⟨xs, [], none, 0, rfl, by simpa using World.ownsRow_nil w5 w5.heap.size 9 1, HC5.out, HL5.out, HX.out.1, fun x hx => hx, by simp, fun rest h => h, HB5.out, Nat.le_refl _⟩
  case round =>
    obtain ⟨left, out, A2, c2, rfl, hown, hcl, hL, hSS, hsub, hlen, hOrd, hB, hz⟩ := hrel
    have HOWN := Lib.hid hown
    have HCL := Lib.hid hcl
    have HL := Lib.hid hL
    have HSS := Lib.hid hSS
    have HSUB := Lib.hid hsub
    have HORD := Lib.hid hOrd
    have HB := Lib.hid hB
    have k5 := cell_of_block (j := 0) hcl rfl
    clear hown hcl hL hSS hsub hOrd hB
    by_cases hne : left = []
    · subst hne
      go_wp2
      go_ret
      obtain ⟨_, _, he, hle⟩ := q_slice (q_of_own HOWN.out)
      injection he with _ _ he
      subst he
      have ho := HORD.out [] .nil
      rw [List.append_nil] at ho
      exact ⟨A2, c2, out, xs, rfl, hle, by simp at hlen; omega, row_q (q_of_own HOWN.out), HX.out, ho, HB3.out.trans (HB.out.mono HB3.out.size)⟩
    · have hl0 : 0 < left.length := List.length_pos_iff.2 hne
      have HNE := Lib.hid hne
      clear hne
      obtain ⟨blk, hA4, hb1, hb2, hb3⟩ : ∃ blk, A4 = some ⟨blk, 0, none⟩ ∧ w3.heap.size ≤ blk ∧ blk < w4.heap.size ∧ True := by
        rcases HL.out.2.2 with h | ⟨blk, e, h1, _, _⟩
        · exact absurd h HNE.out
        · rcases HA4.out blk e with h | h
          · exact ⟨blk, e, h1, h, trivial⟩
          · have : xs.length = 0 := by rw [h]; rfl
            omega
      subst hA4
      have H73 := Lib.hid (index73 74 #[.pointer (some ⟨w4.heap.size, 0, none⟩), .pointer (some ⟨w2.heap.size, 0, none⟩)] enters74 (some ⟨blk, 0, none⟩) c4 left (fun s => !(left.any (hind E s))) wr (fun W x hx hBW => by
        have hBW3 := HB.out.trans (hBW.mono HB.out.size)
        have hz3 := hz3
        have c3' : wr.cell? ⟨w2.heap.size, 0, none⟩ = some (.map (some w1.heap.size)) := (HB.out.cell (by show w2.heap.size < _; omega)).trans HC3.out
        exact (free74 (left := left) (HW3.out.below hBW3 (Nat.le_refl _)) HSUB.out HXS.out x (HSUB.out x hx) _ _ ((hBW.cell (World.block_lt_of_cell? _ _ k5)).trans k5) ((hBW.cell (World.block_lt_of_cell? _ _ c3')).trans c3') (HL.out.row.below hBW (Nat.le_refl _)) (by omega)).mono fun e w' ⟨h1, h2⟩ => ⟨h1, hBW.trans (h2.mono hBW.size)⟩) HL.out.row (by omega))
      have hle2 : out.length ≤ c2 := by
        obtain ⟨_, _, he, hle⟩ := q_slice (q_of_own HOWN.out)
        injection he with _ _ he
        omega
      go_wp2_with (first
        | (go_at_call 73; refine H73.out.mono ?_; rintro ee w6 ⟨r, rfl, hF, hB6⟩; obtain ⟨i, x, rfl, hi, hx, hstep⟩ := ord_step HSS.out HNE.out hF; have HX6 := Lib.hid hx; have HST := Lib.hid hstep; have HB6 := Lib.hid hB6; have HL6 := Lib.hid (HL.out.kept hB6.size (fun b _ hb => hB6.block b hb)); have HBL6 := Lib.hid ((hB6.block _ (by omega)).trans HCL.out); have HO6 := Lib.hid (own_below HOWN.out hB6 (Nat.le_refl _)); have k6 := (hB6.cell (World.block_lt_of_cell? _ _ k5)).trans k5; obtain ⟨_, ea, hcx0⟩ := HL6.out.row i x hx; cases ea; have hcx : w6.cell? ⟨blk, i, none⟩ = some (.string (U x)) := (by rw [add_at, Nat.zero_add] at hcx0; exact hcx0); have z6 := hB6.size; have i1 : (0 : Int) ≤ (i : Int) := (by omega); have i2 : (i : Int) < (left.length : Int) := (by omega); have hib : i ≤ 1000000 := (by omega); clear k5 hF hB6 hx hstep hcx0)
        | (at_builtin; refine wpList_append_lies _ (by rfl) _ _ _ (by rfl) w5.heap.size 9 i9 _ 1 16 Try.underlying22 hi9 hz90 hz91 hz92 rfl (by omega) (.slice A2 out.length c2) _ _ (by rfl) (HO6.out.alloc _) ⟨w6.heap.size, 0, none⟩ 1 1 [.string (U x)] (by rfl) (by rfl) (World.news_of_block (cs := #[.string (U x)]) (t := 9) (fr := (0, 0)) (heap_alloc_new w6 _)) (by simp [Value.oneCell']) (by omega) (by unfold maxLen; omega) (by omega) (by simp; omega) (w6.heap.size + 1) (by simp) ?_; intro gg cap' w7 hown7 hgrow7 hat7 hlt7; have HO7 := Lib.hid hown7; have HG7 := Lib.hid hgrow7; have HK7 := Lib.hid (keep7 HO6.out hgrow7 (by omega)); have z7 := HG7.out.size; have k7 := (World.cell?_of_block (a := ⟨w4.heap.size, 0, none⟩) (HK7.out w4.heap.size (by omega))).trans k6; have HL7 := Lib.hid (HL6.out.kept (by rw [World.size_alloc] at z7; omega) (fun b hb _ => HK7.out b (by injection hb with hb; injection hb with hb _ _; omega))); clear hown7 hgrow7 hat7 hlt7 k6)
        | (go_at_call 77; refine (delete77 HL7.out hi).mono ?_; rintro ee w8 ⟨l', hl', rfl, hL8, hz8, hB8, hk8⟩; have HLP := Lib.hid hl'; clear hl'; have HL8 := Lib.hid hL8; have HB8 := Lib.hid hB8; have HK8 := Lib.hid hk8; have hn8 : w8.heap[w4.heap.size]? = some (.cells #[.slice (some ⟨blk, 0, none⟩) left.length c4] 22) := (by rw [hk8 _ (fun e => by injection e with e; injection e with e _ _; omega), HK7.out _ (by omega)]; exact HBL6.out); have k8 := cell_of_block (j := 0) hn8 rfl; have f8 := frozen_of_block (j := 0) hn8; have HN8 := Lib.hid hn8; clear hL8 hB8 hk8 hn8 k7))
      go_roundw
      have hlp := HLP.out
      have hl' : l'.length = left.length - 1 := by
        rw [hlp, List.length_append, List.length_take, List.length_drop]
        omega
      have z7' := z7
      rw [World.size_alloc] at z7'
      have hgg : w5.heap.size ≤ gg ∧ gg < w7.heap.size := HO7.out.lt gg rfl
      have ho8 : w8.ownsRow w5.heap.size 9 1 (.slice (some ⟨gg, 0, none⟩) (out.length + 1) cap') (out.length + 1) (out.map encStr ++ [.string (U x)]) := own_block HO7.out (fun b hb => HK8.out b (fun e => by
        injection e with e; injection e with e _ _
        have := (HO7.out.lt b hb).1
        omega))
      case measure => simp [lenOf]; omega
      case rel =>
        refine ⟨l', out ++ [x], some ⟨gg, 0, none⟩, cap', by simp, ?_, ?_, ?_, by rw [hlp]; exact cut_ss HSS.out, ?_, by simp; omega, ?_, ?_, ?_⟩
        · have := ownsRow_setCell_below (a := ⟨w4.heap.size, 0, none⟩) ho8 (by show w4.heap.size < _; omega) (.slice (some ⟨blk, 0, none⟩) l'.length c4)
          simpa [enc_U] using this
        · have := HN8.out
          simp only [World.setCell, Array.getElem?_modify]
          rw [if_pos trivial, this]
          rfl
        · refine HL8.out.kept (by simp [World.setCell]) fun b hb _ => Below.heap_setCell _ _ _ _ ?_
          intro e
          injection hb with hb
          injection hb with hb _ _
          have : b = w4.heap.size := e
          omega
        · intro y hy
          rw [hlp] at hy
          rcases List.mem_append.1 hy with h | h
          · exact HSUB.out y (List.mem_of_mem_take h)
          · exact HSUB.out y (List.mem_of_mem_drop h)
        · intro rest hr
          rw [List.append_assoc]
          rw [hlp] at hr
          exact HORD.out _ (HST.out _ hr)
        · have b6 := HB.out.trans (HB6.out.mono HB.out.size)
          have b7 := (b6.alloc b6.size (.cells #[.string (U x)] 9)).grown HG7.out (by rw [World.size_alloc]; have := b6.size; omega) (fun q hq => by have := (HO6.out.lt q hq).1; omega)
          exact (b7.trans HB8.out).setCell (by show w3.heap.size ≤ w4.heap.size; exact z4) _
        · simp [World.setCell]
          omega
end Go.Proofs.Ytljfknneijmfoaa
