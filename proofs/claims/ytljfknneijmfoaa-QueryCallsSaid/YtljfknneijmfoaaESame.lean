import Derived.Test.YtljfknneijmfoaaAsked
import Derived.Test.YtljfknneijmfoaaFe
namespace Go.Proofs.Ytljfknneijmfoaa
open Go.RowKit Go.Maps Go.WideMaps Go.Lib
open Go.Proofs.YtljfknneijmfoaaW.PrintWords

/-- An edge, as the texts printed for QueryEdges have it. -/
def toE50 (e : S × Int × S) : PQueryEdges.S50 := ⟨U e.1, e.2.1, U e.2.2⟩

theorem C_of_edgesE {w : World} {A : Option Addr} {es : List (S × Int × S)} (h : EdgeRow w A es) (hn : es.length ≤ 9223372036854775807) : Kd.C PQueryEdges.k50 w A es.length (es.map toE50) := by
  refine ⟨by simp, by omega, fun h0 => ?_⟩
  obtain ⟨ad, rfl, _⟩ := h 0 _ (List.getElem?_eq_getElem h0)
  refine ⟨ad, rfl, fun j p hp => ?_⟩
  rw [List.getElem?_map] at hp
  obtain ⟨e, he, rfl⟩ := Option.map_eq_some_iff.1 hp
  obtain ⟨ad', ea, c0, c1, c2⟩ := h j e he
  cases ea
  refine ⟨_, rfl, PQueryEdges.k50_mk w _, fun i u hu => ?_⟩
  show w.cell? (ad.add (j * 3 + i)) = some u
  match i, hu with
  | 0, hu => cases hu; exact c0
  | 1, hu => cases hu; rw [add_field _ _ 1 (by omega)]; exact c1
  | 2, hu => cases hu; rw [add_field _ _ 2 (by omega)]; exact c2

theorem same_l0 (l : List (S × Int × S)) (hl : l.length ≤ 1000000) : ∀ (m i : Nat), l.length - i = m → i ≤ l.length → Ev (fun k => PQueryEdges.lanternalike_SameEdges.l0 k (l.map toE50) (l.map toE50) (i : Int)) true := by
  intro m
  induction m with
  | zero =>
    intro i hm hi
    have : i = l.length := by omega
    subst this
    refine Ev.step (f := fun _ => some true) (fun k => ?_) (Ev.now true)
    show PQueryEdges.lanternalike_SameEdges.l0 (k + 1) _ _ _ = _
    rw [PQueryEdges.lanternalike_SameEdges.l0]
    rw [if_neg (by simp)]
  | succ m ih =>
    intro i hm hi
    refine Ev.step (fun k => ?_) (ih (i + 1) (by omega) (by omega))
    show PQueryEdges.lanternalike_SameEdges.l0 (k + 1) _ _ _ = _
    rw [PQueryEdges.lanternalike_SameEdges.l0]
    rw [if_pos (by simp; omega), if_pos (by omega), if_pos (by simp; omega), if_neg (by simp), show wrap64 ((i : Int) + 1) = ((i + 1 : Nat) : Int) by unfold wrap64; omega]

/-- SameEdges of two that read alike. -/
theorem same33 {A0 : Option Addr} {c0 : Nat} {A1 : Option Addr} {c1 : Nat} {l : List (S × Int × S)} {w : World} (h0 : EdgeRow w A0 l) (hc0 : l.length ≤ c0) (h1 : EdgeRow w A1 l) (hc1 : l.length ≤ c1) (hl : l.length ≤ 1000000) :
    Calls Try.prog 33 #[.slice A0 l.length c0, .slice A1 l.length c1] w fun e w' => e = .returned (.bool true) ∧ Below w.heap.size w w' := by
  obtain ⟨k, hk⟩ := (same_l0 l hl l.length 0 (by omega) (by omega)).rounds
  have hf : PQueryEdges.lanternalike_SameEdges.f k (l.map toE50) (l.map toE50) = some true := by
    unfold PQueryEdges.lanternalike_SameEdges.f
    rw [if_pos rfl]
    exact hk
  have hC0 := C_of_edgesE h0 (by omega)
  have hC1 := C_of_edgesE h1 (by omega)
  have := PQueryEdges.lanternalike_SameEdges.calls k A0 c0 (l.map toE50) A1 c1 (l.map toE50) true w (by simpa using hC0) (by simpa using hc0) (by simpa using hC1) (by simpa using hc1) hf
  simp only [List.length_map] at this
  exact this.mono fun _ _ ⟨h1, h2⟩ => ⟨h1, h2.below⟩

set_option maxRecDepth 100000 in
/-- At: where edges from a place lead. -/
theorem at37 (e : S) (As : Option Addr) (ns cs : Nat) (Ar : Option Addr) (nr cr : Nat) (Ae : Option Addr) (ce : Nat) (x4 x5 : Value) (es : List (S × Int × S)) (w : World) (hE : EdgeRow w Ae es) (hn : es.length ≤ 100000) (key : S) (pc : Int) :
    Calls Try.prog 37 #[.agg (repV e As ns cs Ar nr cr (.slice Ae es.length ce) x4 x5), .string (U key), .int .i64 pc] w fun ee w' => ∃ A c, ee = .returned (.slice A ((es.filter (isAt key pc)).map (·.2.2)).length c) ∧ ((es.filter (isAt key pc)).map (·.2.2)).length ≤ c ∧
      StrRow w' A ((es.filter (isAt key pc)).map (·.2.2)) ∧ Below w.heap.size w w' := by
  obtain ⟨i9, hi9, hz90, hz91, hz92⟩ := info_parts info9
  have HE := Lib.hid hE
  clear hE
  obtain ⟨l, hl⟩ : ∃ l, l = es.filter (isAt key pc) := ⟨_, rfl⟩
  rw [← hl]
  have hll : l.length ≤ 100000 := by rw [hl]; exact Nat.le_trans (List.length_filter_le _ _) hn
  have HL := Lib.hid hl
  clear hl
  unfold repV
  go_enter Try.func37, Try.ntmps37
  go_upto_region 1 with (fail)
  generalize hq1 : (Obj.cells #[.string (U e), .slice As ns cs, .slice Ar nr cr, .slice Ae es.length ce, x4, x5] 32) = o1
  generalize hq2 : (Obj.cells #[.string (U key)] 9) = o2
  generalize hq3 : (Obj.cells #[.int .i64 pc] 3) = o3
  obtain ⟨w1, hw1⟩ : ∃ w1, w1 = ((w.alloc o1).alloc o2).alloc o3 := ⟨_, rfl⟩
  rw [← hw1]
  have s1 : (w.alloc o1).heap.size = w.heap.size + 1 := World.size_alloc _ _
  have s2 : ((w.alloc o1).alloc o2).heap.size = w.heap.size + 1 + 1 := by rw [World.size_alloc, s1]
  have hb1 : Below w.heap.size w w1 := by rw [hw1]; exact (((Below.refl _ w).alloc (Nat.le_refl _) _).alloc (by omega) _).alloc (by omega) _
  have hz1 : w1.heap.size = w.heap.size + 1 + 1 + 1 := by rw [hw1, World.size_alloc, s2]
  have hc1 : w1.heap[w.heap.size]? = some (.cells #[.string (U e), .slice As ns cs, .slice Ar nr cr, .slice Ae es.length ce, x4, x5] 32) := by
    rw [hw1, Below.heap_alloc _ _ _ (by omega), Below.heap_alloc _ _ _ (by omega), block_new, ← hq1]
  have hc2 : w1.heap[w.heap.size + 1]? = some (.cells #[.string (U key)] 9) := by
    have := block_new (w.alloc o1) o2
    rw [s1] at this
    rw [hw1, Below.heap_alloc _ _ _ (by omega), this, ← hq2]
  have hc3 : w1.heap[w.heap.size + 1 + 1]? = some (.cells #[.int .i64 pc] 3) := by
    have := block_new ((w.alloc o1).alloc o2) o3
    rw [s2] at this
    rw [hw1, this, ← hq3]
  have k0 := cell_of_block (j := 0) hc1 rfl
  have k1 := cell_of_block (j := 1) hc1 rfl
  have k2 := cell_of_block (j := 2) hc1 rfl
  have k3 := cell_of_block (j := 3) hc1 rfl
  have k4 := cell_of_block (j := 4) hc1 rfl
  have k5 := cell_of_block (j := 5) hc1 rfl
  have H65 := (edges65_68 (isAt key pc) (.pointer (some ⟨w.heap.size + 1, 0, none⟩)) (.pointer (some ⟨w.heap.size + 1 + 1, 0, none⟩)) e As ns cs Ar nr cr Ae ce x4 x5 es w1 (HE.out.below hb1 (Nat.le_refl _)) hn (fun y _ W' hB' =>
    cl68 key y.1 y.2.2 pc y.2.1 (w.heap.size + 1) (w.heap.size + 1 + 1) W' (cell_of_block (j := 0) ((hB'.block _ (by omega)).trans hc2) rfl) (cell_of_block (j := 0) ((hB'.block _ (by omega)).trans hc3) rfl)))
  have HB1 := Lib.hid hb1
  unfold repV at H65
  rw [← HL.out] at H65
  replace H65 := Lib.hid H65
  clear hb1 hz1 hc1 hc2 hc3 hw1 s1 s2 hq1 hq2 hq3
  go_wp2_with (go_at_call 65; refine H65.out.mono ?_; rintro ee w2 ⟨A2, c2, rfl, _, hER, hB2⟩; have HB2 := Lib.hid hB2; have HER := Lib.hid hER; clear hB2 hER)
  clear k0 k1 k2 k3 k4 k5
  go_loopw [6, 13] (fun s6 i wr => ∃ (k : Nat) (A4 : Option Addr) (c4 : Nat), k ≤ l.length ∧ i = .int .i64 k ∧ s6 = .slice A4 k c4 ∧ k ≤ c4 ∧ wr.ownsRow w2.heap.size 9 1 (.slice A4 k c4) k (((l.take k).map (·.2.2)).map encStr) ∧ Below w2.heap.size w2 wr) (fun _ i _ => l.length - (intOf i).toNat)
  case atStart =>
    refine ⟨0, none, 0, Nat.zero_le _, rfl, rfl, Nat.le_refl _, ?_, Below.refl _ _⟩
    simpa using World.ownsRow_nil w2 w2.heap.size 9 1
  case round =>
    obtain ⟨k, A4, c4, hk, rfl, rfl, hle4, hown, hB⟩ := hrel
    have HOWN := Lib.hid hown
    have HB := Lib.hid hB
    have HLE4 := Lib.hid hle4
    clear hown hB hle4
    by_cases hlt : k < l.length
    · obtain ⟨⟨ef, ep, et⟩, hr⟩ : ∃ y, l[k]? = some y := ⟨_, List.getElem?_eq_getElem hlt⟩
      obtain ⟨ad, rfl, h0, h1, h2⟩ := (HER.out.below HB.out (Nat.le_refl _)) k _ hr
      dsimp only at h0 h1 h2
      have hkb : k ≤ 1000000 := by omega
      have HRR := Lib.hid hr
      clear hr
      go_upto_region 4 with (fail)
      obtain ⟨wo, hwo⟩ : ∃ wo : World, wo = wr.alloc (.cells #[.string (U ef), .int .i64 ep, .string (U et)] 50) := ⟨_, rfl⟩
      rw [← hwo]
      have hBo : Below w2.heap.size w2 wo := by rw [hwo]; exact HB.out.alloc (HB.out.size) _
      have hOo := HOWN.out.alloc (.cells #[.string (U ef), .int .i64 ep, .string (U et)] 50)
      have hbs := block_new wr (.cells #[.string (U ef), .int .i64 ep, .string (U et)] 50)
      rw [← hwo] at hOo hbs
      have p2 := cell_of_block (j := 2) hbs rfl
      have HBO := Lib.hid hBo
      have HOO := Lib.hid hOo
      clear hBo hOo hbs hwo h0 h1 h2
      go_wp2_with (at_builtin; refine wpList_append_lies _ (by rfl) _ _ _ (by rfl) w2.heap.size 9 i9 _ 1 16 Try.underlying22 hi9 hz90 hz91 hz92 rfl (by omega) (.slice A4 k c4) _ _ (by rfl) (HOO.out.alloc _) ⟨wo.heap.size, 0, none⟩ 1 1 [.string (U et)] (by rfl) (by rfl) (World.news_of_block (cs := #[.string (U et)]) (t := 9) (fr := (0, 0)) (heap_alloc_new wo _)) (by simp [Value.oneCell']) (by omega) (by unfold maxLen; omega) (by omega) (by have := HBO.out.size; simp; omega) (wo.heap.size + 1) (by simp) ?_; intro gg cap' w5 hown5 hgrow hat hlt5; have HO5 := Lib.hid hown5; have HG5 := Lib.hid hgrow; clear hown5 hgrow hat hlt5)
      go_roundw
      case measure => simp [intOf]; omega
      case rel =>
        have h5 := HO5.out
        obtain ⟨_, _, he5, hle5⟩ := q_slice (q_of_own h5)
        injection he5 with _ _ he5
        subst he5
        refine ⟨k + 1, some ⟨gg, 0, none⟩, cap', hlt, by go_num, rfl, hle5, ?_, ?_⟩
        · have ht : ((l.take (k + 1)).map (·.2.2)).map encStr = ((l.take k).map (·.2.2)).map encStr ++ [.string (U et)] := by
            rw [List.take_add_one, HRR.out]
            simp [enc_U]
          rw [ht]
          exact h5
        · have hb := HBO.out.alloc HBO.out.size (.cells #[.string (U et)] 9)
          exact hb.grown HG5.out hb.size (fun q hq => (HOO.out.lt q hq).1)
    · have hke : k = l.length := by omega
      subst hke
      go_wp2_with fail
      go_ret
      have hs1 := HB1.out.size
      have hs2 := HB2.out.size
      have ho := HOWN.out
      rw [List.take_length] at ho
      have hr := row_q (A := A4) (c := c4) (xs := l.map (·.2.2)) (by have := q_of_own ho; simpa using this)
      exact ⟨A4, c4, by simp, by simpa using HLE4.out, hr, HB1.out.trans ((HB2.out.mono hs1).trans (HB.out.mono (Nat.le_trans hs1 hs2)))⟩
end Go.Proofs.Ytljfknneijmfoaa
