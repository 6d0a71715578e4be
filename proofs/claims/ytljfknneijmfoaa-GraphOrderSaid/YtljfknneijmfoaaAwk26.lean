import Derived.Test.YtljfknneijmfoaaPts
import Derived.Test.YtljfknneijmfoaaRing30
import Derived.Test.YtljfknneijmfoaaDot
namespace Go.Proofs.Ytljfknneijmfoaa
open Go.RowKit Go.Maps Go.WideMaps Go.Lib
open Go.Proofs.YtljfknneijmfoaaW.PrintWords (q_of_own q_slice q_cells add_at)

/-- The two edges that the law's own check makes. -/
def ab : List (S × Int × S) := [([97], 0, [98]), ([98], 0, [97])]

theorem mem_ab {e : S × S} : e ∈ ends ab ↔ e = ([97], [98]) ∨ e = ([98], [97]) := by
  show e ∈ [(([97] : S), ([98] : S)), ([98], [97])] ↔ _
  simp

theorem ring_ab : IsRing (ends ab) [[97], [98]] := by
  have h1 : (([97] : S), ([98] : S)) ∈ ends ab := mem_ab.2 (.inl rfl)
  have h2 : (([98] : S), ([97] : S)) ∈ ends ab := mem_ab.2 (.inr rfl)
  refine ⟨?_, [97], ⟨[98], h1, .edge h2⟩, fun t => ⟨fun h => ?_, fun h => ?_⟩⟩
  · unfold SS
    refine List.pairwise_cons.2 ⟨fun x hx => ?_, List.pairwise_singleton _ _⟩
    simp at hx
    subst hx
    decide
  · simp at h
    rcases h with rfl | rfl
    · exact .refl _ _
    · exact ⟨.edge h1, .edge h2⟩
  · obtain ⟨⟨n, hw⟩, _⟩ := h
    cases n with
    | zero => cases hw; simp
    | succ n =>
      obtain ⟨b, _, hb⟩ := hw.unsnoc
      rcases mem_ab.1 hb with h | h
      · simp at h; simp [h.2]
      · simp at h; simp [h.2]

theorem rings_ab {gs : List (List S)} (h : IsRings (ends ab) gs) : gs = [[[97], [98]]] := by
  refine h.uniq ⟨List.pairwise_singleton _ _, fun g => ⟨fun hg => ?_, fun r => ?_⟩⟩
  · simp at hg
    subst hg
    exact ring_ab
  · obtain ⟨x, hx⟩ := List.exists_mem_of_ne_nil g r.ne_nil
    obtain ⟨y, hy, _⟩ := r.cyc hx
    have hxm : x ∈ ([[97], [98]] : List S) := by
      rcases mem_ab.1 hy with h | h
      · simp at h; simp [h.1]
      · simp at h; simp [h.1]
    have := r.eq_of_mem ring_ab hx hxm
    subst this
    simp

theorem way_ac {base : Nat} {w' : World} {v : Value} {c : Int} (h : WayAns base w' (ends ab) [97] [99] v c) : c = 11 ∧ v = .slice none 0 0 := by
  rcases h with ⟨_, ps, d, hg, hh, _⟩ | ⟨hc, hv, _⟩
  · exfalso
    match ps, hh with
    | a :: q, hh =>
      cases hh
      obtain ⟨s, hs, hcn⟩ := dist_conn hg.dist
      simp at hs
      subst hs
      obtain ⟨n, hw⟩ := conn_rev.1 hcn
      cases n with
      | zero => cases hw
      | succ n =>
        obtain ⟨b, _, hb⟩ := hw.unsnoc
        rcases mem_ab.1 hb with h | h
        · simp at h
        · simp at h
  · exact ⟨hc, hv⟩

theorem edges_ab (w : World) : EdgeRow (w.alloc (.cells #[.string ⟨#[97]⟩, .int .i64 0, .string ⟨#[98]⟩, .string ⟨#[98]⟩, .int .i64 0, .string ⟨#[97]⟩] 50)) (some ⟨w.heap.size, 0, none⟩) ab := by
  have hc := heap_alloc_new w (.cells #[.string ⟨#[97]⟩, .int .i64 0, .string ⟨#[98]⟩, .string ⟨#[98]⟩, .int .i64 0, .string ⟨#[97]⟩] 50)
  intro k e he
  have hk : k < 2 := (List.getElem?_eq_some_iff.1 he).1
  refine ⟨_, rfl, ?_⟩
  match k, hk with
  | 0, _ =>
    cases he
    exact ⟨cell_of_block (j := 0) hc rfl, cell_of_block (j := 1) hc rfl, cell_of_block (j := 2) hc rfl⟩
  | 1, _ =>
    cases he
    exact ⟨cell_of_block (j := 3) hc rfl, cell_of_block (j := 4) hc rfl, cell_of_block (j := 5) hc rfl⟩

set_option maxRecDepth 100000 in
set_option maxHeartbeats 4000000 in
theorem awake26 (w : World) : Calls Try.prog 26 #[] w fun e w' => e = .returned (.bool true) ∧ Below w.heap.size w w' := by
  have hE := edges_ab w
  go_enter Try.func26, Try.ntmps26
  go_upto_region 2 with (fail)
  obtain ⟨W, hW⟩ : ∃ W, W = w.alloc (.cells #[.string ⟨#[97]⟩, .int .i64 0, .string ⟨#[98]⟩, .string ⟨#[98]⟩, .int .i64 0, .string ⟨#[97]⟩] 50) := ⟨_, rfl⟩
  rw [← hW] at hE ⊢
  have b0 : Below w.heap.size w W := by rw [hW]; exact (Below.refl _ w).alloc (Nat.le_refl _) _
  have HE := Lib.hid hE
  have z0 := b0.size
  clear hW hE
  have hsz : ∀ e ∈ ab, e.1.length ≤ 100000 ∧ e.2.2.length ≤ 100000 := by
    intro e he
    simp [ab] at he
    rcases he with rfl | rfl <;> simp
  have HSZ := Lib.hid hsz
  clear hsz
  go_upto_region 3 with (go_at_call 30; refine (rings30 (some ⟨w.heap.size, 0, none⟩) 2 ab W HE.out (by simp [ab]) HSZ.out).mono ?_; rintro ee w1 ⟨A1, c1, gs, rfl, hle, _, hR, hI, hB1⟩; have HR := Lib.hid hR; have HI := Lib.hid hI; have HB1 := Lib.hid hB1; have HLE := Lib.hid hle; clear hR hI hB1 hle)
  have hg := rings_ab HI.out
  subst hg
  obtain ⟨ad, A2, c2, rfl, hcell, hle2, hrow⟩ := HR.out 0 _ rfl
  have z1 := HB1.out.size
  have HE1 := Lib.hid (HE.out.below HB1.out (Nat.le_refl _))
  have HCELL := Lib.hid hcell
  clear hcell hrow HR HI HLE
  go_upto_region 4 with (go_at_call 27; refine (path27' (some ⟨w.heap.size, 0, none⟩) 2 ab [97] [99] w1 HE1.out (by simp [ab]) (by simp [ab]) HSZ.out (by simp) (by simp)).mono ?_; rintro ee w2 ⟨v2, cc2, rfl, hWA, hB2⟩; obtain ⟨rfl, rfl⟩ := way_ac hWA; have HB2 := Lib.hid hB2; clear hWA hB2)
  have z2 := HB2.out.size
  have hcl := World.block_lt_of_cell? _ _ HCELL.out
  have hy0 : w2.cell? ad = some (.slice A2 2 c2) := by
    have h := (HB2.out.cell hcl).trans HCELL.out
    simp [Addr.add] at h
    exact h
  clear HCELL hcl
  have hbe : (dotNil.toList == [100, 105, 103, 114, 97, 112, 104, 32, 123, 10, 125, 10]) = true := by unfold dotNil; simp
  go_wp2_with (go_at_call 48; refine (dotNil48 w2).mono ?_; rintro ee w3 ⟨rfl, hB3⟩; have HB3 := Lib.hid hB3; clear hB3)
  go_ret
  exact ⟨rfl, b0.trans ((HB1.out.mono z0).trans ((HB2.out.mono (by omega)).trans (HB3.out.mono (by omega))))⟩
end Go.Proofs.Ytljfknneijmfoaa
