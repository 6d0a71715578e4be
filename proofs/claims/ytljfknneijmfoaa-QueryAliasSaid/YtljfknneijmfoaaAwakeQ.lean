import Derived.Test.YtljfknneijmfoaaWay
namespace Go.Proofs.Ytljfknneijmfoaa
open Go.RowKit Go.Maps Go.WideMaps Go.Lib
open Go.Proofs.YtljfknneijmfoaaW.PrintWords (add_at add_field)

/-- The four blocks of the report that is asked. -/
structure AwakeAt (w W : World) : Prop where
  sites : W.heap[w.heap.size]? = some (.cells #[.string ⟨#[120]⟩, .string ⟨#[121]⟩] 9)
  nums : W.heap[w.heap.size + 1]? = some (.cells #[.int .i64 1] 3)
  sets : W.heap[w.heap.size + 1 + 1]? = some (.cells #[.string ⟨#[118]⟩, .slice (some ⟨w.heap.size + 1, 0, none⟩) 1 1] 75)
  rep : W.heap[w.heap.size + 1 + 1 + 1]? = some (.cells #[.string ⟨#[97]⟩, .slice (some ⟨w.heap.size, 0, none⟩) 2 2, .slice (some ⟨w.heap.size + 1 + 1, 0, none⟩) 1 1, .slice none 0 0, .slice none 0 0, .slice none 0 0] 32)
  size : W.heap.size = w.heap.size + 1 + 1 + 1 + 1
  below : Below w.heap.size w W

theorem awakeAt (w : World) : AwakeAt w ((((w.alloc (.cells #[.string ⟨#[120]⟩, .string ⟨#[121]⟩] 9)).alloc (.cells #[.int .i64 1] 3)).alloc (.cells #[.string ⟨#[118]⟩, .slice (some ⟨w.heap.size + 1, 0, none⟩) 1 1] 75)).alloc
    (.cells #[.string ⟨#[97]⟩, .slice (some ⟨w.heap.size, 0, none⟩) 2 2, .slice (some ⟨w.heap.size + 1 + 1, 0, none⟩) 1 1, .slice none 0 0, .slice none 0 0, .slice none 0 0] 32)) := by
  generalize ho1 : (Obj.cells #[.string ⟨#[120]⟩, .string ⟨#[121]⟩] 9) = o1
  generalize ho2 : (Obj.cells #[.int .i64 1] 3) = o2
  generalize ho3 : (Obj.cells #[.string ⟨#[118]⟩, .slice (some ⟨w.heap.size + 1, 0, none⟩) 1 1] 75) = o3
  generalize ho4 : (Obj.cells #[.string ⟨#[97]⟩, .slice (some ⟨w.heap.size, 0, none⟩) 2 2, .slice (some ⟨w.heap.size + 1 + 1, 0, none⟩) 1 1, .slice none 0 0, .slice none 0 0, .slice none 0 0] 32) = o4
  have s1 : (w.alloc o1).heap.size = w.heap.size + 1 := World.size_alloc _ _
  have s2 : ((w.alloc o1).alloc o2).heap.size = w.heap.size + 1 + 1 := by rw [World.size_alloc, s1]
  have s3 : (((w.alloc o1).alloc o2).alloc o3).heap.size = w.heap.size + 1 + 1 + 1 := by rw [World.size_alloc, s2]
  have s4 : ((((w.alloc o1).alloc o2).alloc o3).alloc o4).heap.size = w.heap.size + 1 + 1 + 1 + 1 := by rw [World.size_alloc, s3]
  have b1 := block_new w o1
  have b2 := block_new (w.alloc o1) o2
  have b3 := block_new ((w.alloc o1).alloc o2) o3
  have b4 := block_new (((w.alloc o1).alloc o2).alloc o3) o4
  rw [s1] at b2
  rw [s2] at b3
  rw [s3] at b4
  refine ⟨?_, ?_, ?_, ?_, s4, ?_⟩
  · rw [Below.heap_alloc _ _ _ (by omega), Below.heap_alloc _ _ _ (by omega), Below.heap_alloc _ _ _ (by omega), b1, ho1]
  · rw [Below.heap_alloc _ _ _ (by omega), Below.heap_alloc _ _ _ (by omega), b2, ho2]
  · rw [Below.heap_alloc _ _ _ (by omega), b3, ho3]
  · rw [b4, ho4]
  · exact (((((Below.refl _ w).alloc (Nat.le_refl _) _).alloc (by omega) _).alloc (by omega) _).alloc (by omega) _)

variable {w W : World}

theorem AwakeAt.str (h : AwakeAt w W) : StrRow W (some ⟨w.heap.size, 0, none⟩) [[120], [121]] := by
  intro k x hx
  refine ⟨_, rfl, ?_⟩
  rw [add_at]
  match k, hx with
  | 0, hx => cases hx; exact cell_of_block h.sites rfl
  | 1, hx => cases hx; exact cell_of_block h.sites rfl

theorem AwakeAt.set (h : AwakeAt w W) : SetRow W (some ⟨w.heap.size + 1 + 1, 0, none⟩) [([118], [1])] := by
  intro k x hx
  match k, hx with
  | 0, hx =>
    cases hx
    refine ⟨_, some ⟨w.heap.size + 1, 0, none⟩, 1, rfl, ?_, ?_, Nat.le_refl _, ?_⟩
    · rw [add_at]; exact cell_of_block h.sets rfl
    · rw [add_at]; exact cell_of_block h.sets rfl
    · intro k z hz
      match k, hz with
      | 0, hz => cases hz; exact ⟨_, rfl, by rw [add_at]; exact cell_of_block h.nums rfl⟩

theorem AwakeAt.keep (h : AwakeAt w W) {W' : World} (hB : Below W.heap.size W W') : W'.heap[w.heap.size + 1 + 1 + 1]? = some (.cells #[.string ⟨#[97]⟩, .slice (some ⟨w.heap.size, 0, none⟩) 2 2, .slice (some ⟨w.heap.size + 1 + 1, 0, none⟩) 1 1, .slice none 0 0, .slice none 0 0, .slice none 0 0] 32) :=
  (hB.block _ (by have := h.size; omega)).trans h.rep

theorem awake_picks (v : S) (j : Nat) : (picks 2 v ([([118], [1])].take j : List (S × List Int))).length ≤ 100000 := by
  match j with
  | 0 => simp [picks]
  | j + 1 =>
    have h : picks 2 v ([([118], [1])].take (j + 1) : List (S × List Int)) = if ([118] : S) = v then [(1 : Int)].filter (isSite 2) else [] := by simp [picks]
    rw [h]
    split
    · exact Nat.le_trans (List.length_filter_le _ _) (by simp)
    · simp

theorem awake_way {base : Nat} {w' : World} {v : Value} {c : Int} (h : WayAns base w' [] [97] [97] v c) : c = 0 ∧ ∃ A cc, v = .slice A 1 cc := by
  have h0 : Dist (rev []) [[97]] [97] 0 := ⟨⟨[97], by simp, .nil _⟩, fun _ _ _ _ => Nat.zero_le _⟩
  rcases h with ⟨hc, ps, d, hg, hh, ho⟩ | ⟨_, _, hno⟩
  · refine ⟨hc, ?_⟩
    match ps, hh with
    | a :: q, hh =>
      cases hh
      have := hg.dist.uniq h0
      subst this
      cases hg
      obtain ⟨A, cc, rfl⟩ := own_form ho
      exact ⟨A, cc, rfl⟩
  · exact absurd h0 (hno 0)

theorem awake_nums {zs : List Int} (h : IsNums 2 [118] [([118], [1])] zs) : zs = [1] := by
  have hm : ∀ z, z ∈ zs ↔ z = 1 := by
    intro z
    rw [h.2, mem_picks]
    constructor
    · rintro ⟨⟨r, hr, _, hz⟩, _⟩
      simp at hr
      subst hr
      simpa using hz
    · rintro rfl
      exact ⟨⟨([118], [1]), by simp, rfl, by simp⟩, by omega, by decide⟩
  match zs, h.1, hm with
  | [], _, hm => have := (hm 1).2 rfl; cases this
  | [a], _, hm => have := (hm a).1 (by simp); rw [this]
  | a :: b :: r, ha, hm =>
    have h1 := (hm a).1 (by simp)
    have h2 := (hm b).1 (by simp)
    have := (List.pairwise_cons.1 ha).1 b (by simp)
    omega

theorem awake_no {t : Bool} (h : t = true ↔ ∃ z, z ∈ picks 2 [118] [([118], [1])] ∧ z ∈ picks 2 [119] [([118], [1])]) : t = false := by
  cases t with
  | false => rfl
  | true =>
    obtain ⟨z, _, hz⟩ := h.1 rfl
    obtain ⟨⟨r, hr, hn, _⟩, _⟩ := mem_picks.1 hz
    simp at hr
    subst hr
    cases hn

theorem awake_yes {t : Bool} (h : t = true ↔ ∃ z, z ∈ picks 2 [118] [([118], [1])] ∧ z ∈ picks 2 [118] [([118], [1])]) : t = true := by
  have hm : (1 : Int) ∈ picks 2 [118] [([118], [1])] := mem_picks.2 ⟨⟨([118], [1]), by simp, rfl, by simp⟩, by omega, by decide⟩
  exact h.2 ⟨1, hm, hm⟩

set_option maxRecDepth 100000 in
theorem awake14 (w : World) : Calls Try.prog 14 #[] w fun e w' => e = .returned (.bool true) ∧ Below w.heap.size w w' := by
  have HW := Lib.hid (awakeAt w)
  go_enter Try.func14, Try.ntmps14
  go_upto_region 2 with (fail)
  obtain ⟨W, hW⟩ : ∃ W, W = ((((w.alloc (.cells #[.string ⟨#[120]⟩, .string ⟨#[121]⟩] 9)).alloc (.cells #[.int .i64 1] 3)).alloc (.cells #[.string ⟨#[118]⟩, .slice (some ⟨w.heap.size + 1, 0, none⟩) 1 1] 75)).alloc
    (.cells #[.string ⟨#[97]⟩, .slice (some ⟨w.heap.size, 0, none⟩) 2 2, .slice (some ⟨w.heap.size + 1 + 1, 0, none⟩) 1 1, .slice none 0 0, .slice none 0 0, .slice none 0 0] 32)) := ⟨_, rfl⟩
  rw [← hW]
  have hA := HW.out
  rw [← hW] at hA
  have HA := Lib.hid hA
  clear hA HW hW
  have hc := HA.out.keep (Below.refl _ W)
  have k0 := cell_of_block (j := 0) hc rfl
  have k1 := cell_of_block (j := 1) hc rfl
  have k2 := cell_of_block (j := 2) hc rfl
  have k3 := cell_of_block (j := 3) hc rfl
  have k4 := cell_of_block (j := 4) hc rfl
  have k5 := cell_of_block (j := 5) hc rfl
  clear hc
  go_upto_region 3 with (first
    | (go_at_call 32; refine (way32 [97] (some ⟨w.heap.size, 0, none⟩) 2 2 (some ⟨w.heap.size + 1 + 1, 0, none⟩) 1 1 none 0 (.slice none 0 0) (.slice none 0 0) [] [97] W (fun k e h => by cases h) (by simp) (by simp) (fun e h => by cases h) (by simp) (by simp)).mono ?_; rintro e w1 ⟨v1, c1, rfl, ha, hB1⟩; obtain ⟨rfl, A1, cc1, rfl⟩ := awake_way ha; have HB1 := Lib.hid hB1; clear ha hB1))
  clear k0 k1 k2 k3 k4 k5
  have hc := HA.out.keep HB1.out
  have k0 := cell_of_block (j := 0) hc rfl
  have k1 := cell_of_block (j := 1) hc rfl
  have k2 := cell_of_block (j := 2) hc rfl
  have k3 := cell_of_block (j := 3) hc rfl
  have k4 := cell_of_block (j := 4) hc rfl
  have k5 := cell_of_block (j := 5) hc rfl
  clear hc
  have HS1 := Lib.hid (HA.out.str.below HB1.out (Nat.le_refl _))
  have HT1 := Lib.hid (HA.out.set.below HB1.out (Nat.le_refl _))
  go_upto_region 4 with (first
    | (go_at_call 17; refine (points17 [97] (some ⟨w.heap.size, 0, none⟩) 2 (some ⟨w.heap.size + 1 + 1, 0, none⟩) 1 (.slice none 0 0) (.slice none 0 0) (.slice none 0 0) [([118], [1])] [[120], [121]] [118] w1 HS1.out HT1.out (by simp) (fun j => awake_picks _ j) (fun r hr => by (simp at hr; subst hr; simp))).mono ?_; rintro e w2 ⟨v2, zs, rfl, hz, ho, hB2⟩; obtain rfl := awake_nums hz; obtain ⟨A2, cc2, rfl⟩ := own_form ho; have HO := Lib.hid ho; have HB2 := Lib.hid hB2; clear hz ho hB2))
  clear k0 k1 k2 k3 k4 k5
  have HBW := Lib.hid (HB1.out.trans (HB2.out.mono HB1.out.size))
  have hc := HA.out.keep HBW.out
  have k0 := cell_of_block (j := 0) hc rfl
  have k1 := cell_of_block (j := 1) hc rfl
  have k2 := cell_of_block (j := 2) hc rfl
  have k3 := cell_of_block (j := 3) hc rfl
  have k4 := cell_of_block (j := 4) hc rfl
  have k5 := cell_of_block (j := 5) hc rfl
  clear hc
  obtain ⟨ad2, rfl, hy⟩ := (row_q (Go.Proofs.YtljfknneijmfoaaW.PrintWords.q_of_own HO.out)) 0 [121] rfl
  have hy0 : w2.cell? ad2 = some (.string ⟨#[121]⟩) := by
    have h := hy
    simp [Addr.add] at h
    exact h
  have HT2 := Lib.hid (HA.out.set.below HBW.out (Nat.le_refl _))
  clear hy
  have hbe : ((⟨#[121]⟩ : ByteArray).toList == (⟨#[121]⟩ : ByteArray).toList) = true := by simp
  have tok : True := trivial
  go_wp2_with (first
    | (go_at_call 16; have _t := tok; refine (alias16 [97] (some ⟨w.heap.size, 0, none⟩) 2 2 (some ⟨w.heap.size + 1 + 1, 0, none⟩) 1 (.slice none 0 0) (.slice none 0 0) (.slice none 0 0) [([118], [1])] [118] [119] w2 HT2.out (by simp) (fun j => awake_picks _ j) (fun j => awake_picks _ j) (fun r hr => by (simp at hr; subst hr; simp))).mono ?_; rintro e w3 ⟨t3, rfl, ht3, hB3⟩; have hf3 : t3 = false := awake_no ht3; subst hf3; have HB3 := Lib.hid hB3; have HBV := Lib.hid (HBW.out.trans (hB3.mono HBW.out.size)); have hc := HA.out.keep HBV.out; clear tok k0 k1 k2 k3 k4 k5; have k0 := cell_of_block (j := 0) hc rfl; have k1 := cell_of_block (j := 1) hc rfl; have k2 := cell_of_block (j := 2) hc rfl; have k3 := cell_of_block (j := 3) hc rfl; have k4 := cell_of_block (j := 4) hc rfl; have k5 := cell_of_block (j := 5) hc rfl; clear hc ht3 hB3)
    | (go_at_call 16; refine (alias16 [97] (some ⟨w.heap.size, 0, none⟩) 2 2 (some ⟨w.heap.size + 1 + 1, 0, none⟩) 1 (.slice none 0 0) (.slice none 0 0) (.slice none 0 0) [([118], [1])] [118] [118] w3 (HT2.out.below HB3.out (Nat.le_refl _)) (by simp) (fun j => awake_picks _ j) (fun j => awake_picks _ j) (fun r hr => by (simp at hr; subst hr; simp))).mono ?_; rintro e w4 ⟨t4, rfl, ht4, hB4⟩; have hf4 : t4 = true := awake_yes ht4; subst hf4; have HB4 := Lib.hid hB4; clear ht4 hB4))
  go_ret
  refine ⟨rfl, ?_⟩
  have hs := HBV.out.size
  have hz := HA.out.size
  exact HA.out.below.trans ((HBV.out.mono (by omega)).trans (HB4.out.mono (by omega)))
end Go.Proofs.Ytljfknneijmfoaa
