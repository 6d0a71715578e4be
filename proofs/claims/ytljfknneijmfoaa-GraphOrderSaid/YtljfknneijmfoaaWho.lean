import Derived.Test.YtljfknneijmfoaaPts
namespace Go.Proofs.Ytljfknneijmfoaa
open Go.RowKit Go.Maps Go.WideMaps Go.Lib
open Go.Proofs.YtljfknneijmfoaaW.PrintWords (add_at add_field)

/-- The four blocks of the report that is asked. -/
structure AwakeAt (w W : World) : Prop where
  sites : W.heap[w.heap.size]? = some (.cells #[.string ⟨#[120]⟩, .string ⟨#[121]⟩] 9)
  nums : W.heap[w.heap.size + 1]? = some (.cells #[.int .i64 1] 3)
  sets : W.heap[w.heap.size + 1 + 1]? = some (.cells #[.string ⟨#[118]⟩, .slice (some ⟨w.heap.size + 1, 0, none⟩) 1 1] 75)
  rep : W.heap[w.heap.size + 1 + 1 + 1]? = some (.cells #[.string ⟨#[97]⟩, .slice (some ⟨w.heap.size, 0, none⟩) 2 2, .slice (some ⟨w.heap.size + 1 + 1, 0, none⟩) 1 1, .slice none 0 0, .slice none 0 0, .slice none 0 0] 32)
  size : W.heap.size = w.heap.size + 1 + 1 + 1 + 1
  below : Below w.heap.size w W

theorem awakeAt (w : World) : AwakeAt w ((((w.alloc (.cells #[.string ⟨#[120]⟩, .string ⟨#[121]⟩] 9)).alloc (.cells #[.int .i64 1] 3)).alloc (.cells #[.string ⟨#[118]⟩, .slice (some ⟨w.heap.size + 1, 0, none⟩) 1 1] 75)).alloc
    (.cells #[.string ⟨#[97]⟩, .slice (some ⟨w.heap.size, 0, none⟩) 2 2, .slice (some ⟨w.heap.size + 1 + 1, 0, none⟩) 1 1, .slice none 0 0, .slice none 0 0, .slice none 0 0] 32)) := by
  generalize ho1 : (Obj.cells #[.string ⟨#[120]⟩, .string ⟨#[121]⟩] 9) = o1
  generalize ho2 : (Obj.cells #[.int .i64 1] 3) = o2
  generalize ho3 : (Obj.cells #[.string ⟨#[118]⟩, .slice (some ⟨w.heap.size + 1, 0, none⟩) 1 1] 75) = o3
  generalize ho4 : (Obj.cells #[.string ⟨#[97]⟩, .slice (some ⟨w.heap.size, 0, none⟩) 2 2, .slice (some ⟨w.heap.size + 1 + 1, 0, none⟩) 1 1, .slice none 0 0, .slice none 0 0, .slice none 0 0] 32) = o4
  have s1 : (w.alloc o1).heap.size = w.heap.size + 1 := World.size_alloc _ _
  have s2 : ((w.alloc o1).alloc o2).heap.size = w.heap.size + 1 + 1 := by rw [World.size_alloc, s1]
  have s3 : (((w.alloc o1).alloc o2).alloc o3).heap.size = w.heap.size + 1 + 1 + 1 := by rw [World.size_alloc, s2]
  have s4 : ((((w.alloc o1).alloc o2).alloc o3).alloc o4).heap.size = w.heap.size + 1 + 1 + 1 + 1 := by rw [World.size_alloc, s3]
  have b1 := block_new w o1
  have b2 := block_new (w.alloc o1) o2
  have b3 := block_new ((w.alloc o1).alloc o2) o3
  have b4 := block_new (((w.alloc o1).alloc o2).alloc o3) o4
  rw [s1] at b2
  rw [s2] at b3
  rw [s3] at b4
  refine ⟨?_, ?_, ?_, ?_, s4, ?_⟩
  · rw [Below.heap_alloc _ _ _ (by omega), Below.heap_alloc _ _ _ (by omega), Below.heap_alloc _ _ _ (by omega), b1, ho1]
  · rw [Below.heap_alloc _ _ _ (by omega), Below.heap_alloc _ _ _ (by omega), b2, ho2]
  · rw [Below.heap_alloc _ _ _ (by omega), b3, ho3]
  · rw [b4, ho4]
  · exact (((((Below.refl _ w).alloc (Nat.le_refl _) _).alloc (by omega) _).alloc (by omega) _).alloc (by omega) _)

variable {w W : World}

theorem AwakeAt.str (h : AwakeAt w W) : StrRow W (some ⟨w.heap.size, 0, none⟩) [[120], [121]] := by
  intro k x hx
  refine ⟨_, rfl, ?_⟩
  rw [add_at]
  match k, hx with
  | 0, hx => cases hx; exact cell_of_block h.sites rfl
  | 1, hx => cases hx; exact cell_of_block h.sites rfl

theorem AwakeAt.set (h : AwakeAt w W) : SetRow W (some ⟨w.heap.size + 1 + 1, 0, none⟩) [([118], [1])] := by
  intro k x hx
  match k, hx with
  | 0, hx =>
    cases hx
    refine ⟨_, some ⟨w.heap.size + 1, 0, none⟩, 1, rfl, ?_, ?_, Nat.le_refl _, ?_⟩
    · rw [add_at]; exact cell_of_block h.sets rfl
    · rw [add_at]; exact cell_of_block h.sets rfl
    · intro k z hz
      match k, hz with
      | 0, hz => cases hz; exact ⟨_, rfl, by rw [add_at]; exact cell_of_block h.nums rfl⟩

theorem AwakeAt.keep (h : AwakeAt w W) {W' : World} (hB : Below W.heap.size W W') : W'.heap[w.heap.size + 1 + 1 + 1]? = some (.cells #[.string ⟨#[97]⟩, .slice (some ⟨w.heap.size, 0, none⟩) 2 2, .slice (some ⟨w.heap.size + 1 + 1, 0, none⟩) 1 1, .slice none 0 0, .slice none 0 0, .slice none 0 0] 32) :=
  (hB.block _ (by have := h.size; omega)).trans h.rep

theorem awake_picks (v : S) (j : Nat) : (picks 2 v ([([118], [1])].take j : List (S × List Int))).length ≤ 100000 := by
  match j with
  | 0 => simp [picks]
  | j + 1 =>
    have h : picks 2 v ([([118], [1])].take (j + 1) : List (S × List Int)) = if ([118] : S) = v then [(1 : Int)].filter (isSite 2) else [] := by simp [picks]
    rw [h]
    split
    · exact Nat.le_trans (List.length_filter_le _ _) (by simp)
    · simp

theorem awake_way {base : Nat} {w' : World} {v : Value} {c : Int} (h : WayAns base w' [] [97] [97] v c) : c = 0 ∧ ∃ A cc, v = .slice A 1 cc := by
  have h0 : Dist (rev []) [[97]] [97] 0 := ⟨⟨[97], by simp, .nil _⟩, fun _ _ _ _ => Nat.zero_le _⟩
  rcases h with ⟨hc, ps, d, hg, hh, ho⟩ | ⟨_, _, hno⟩
  · refine ⟨hc, ?_⟩
    match ps, hh with
    | a :: q, hh =>
      cases hh
      have := hg.dist.uniq h0
      subst this
      cases hg
      obtain ⟨A, cc, rfl⟩ := own_form ho
      exact ⟨A, cc, rfl⟩
  · exact absurd h0 (hno 0)

theorem awake_nums {zs : List Int} (h : IsNums 2 [118] [([118], [1])] zs) : zs = [1] := by
  have hm : ∀ z, z ∈ zs ↔ z = 1 := by
    intro z
    rw [h.2, mem_picks]
    constructor
    · rintro ⟨⟨r, hr, _, hz⟩, _⟩
      simp at hr
      subst hr
      simpa using hz
    · rintro rfl
      exact ⟨⟨([118], [1]), by simp, rfl, by simp⟩, by omega, by decide⟩
  match zs, h.1, hm with
  | [], _, hm => have := (hm 1).2 rfl; cases this
  | [a], _, hm => have := (hm a).1 (by simp); rw [this]
  | a :: b :: r, ha, hm =>
    have h1 := (hm a).1 (by simp)
    have h2 := (hm b).1 (by simp)
    have := (List.pairwise_cons.1 ha).1 b (by simp)
    omega

theorem awake_no {t : Bool} (h : t = true ↔ ∃ z, z ∈ picks 2 [118] [([118], [1])] ∧ z ∈ picks 2 [119] [([118], [1])]) : t = false := by
  cases t with
  | false => rfl
  | true =>
    obtain ⟨z, _, hz⟩ := h.1 rfl
    obtain ⟨⟨r, hr, hn, _⟩, _⟩ := mem_picks.1 hz
    simp at hr
    subst hr
    cases hn

theorem awake_yes {t : Bool} (h : t = true ↔ ∃ z, z ∈ picks 2 [118] [([118], [1])] ∧ z ∈ picks 2 [118] [([118], [1])]) : t = true := by
  have hm : (1 : Int) ∈ picks 2 [118] [([118], [1])] := mem_picks.2 ⟨⟨([118], [1]), by simp, rfl, by simp⟩, by omega, by decide⟩
  exact h.2 ⟨1, hm, hm⟩

set_option maxRecDepth 100000 in
theorem awake14 (w : World) : Calls Try.prog 14 #[] w fun e w' => e = .returned (.bool true) ∧ Below w.heap.size w w' := by
  have HW := Lib.hid (awakeAt w)
  go_enter Try.func14, Try.ntmps14
  go_upto_region 2 with (fail)
  obtain ⟨W, hW⟩ : ∃ W, W = ((((w.alloc (.cells #[.string ⟨#[120]⟩, .string ⟨#[121]⟩] 9)).alloc (.cells #[.int .i64 1] 3)).alloc (.cells #[.string ⟨#[118]⟩, .slice (some ⟨w.heap.size + 1, 0, none⟩) 1 1] 75)).alloc
    (.cells #[.string ⟨#[97]⟩, .slice (some ⟨w.heap.size, 0, none⟩) 2 2, .slice (some ⟨w.heap.size + 1 + 1, 0, none⟩) 1 1, .slice none 0 0, .slice none 0 0, .slice none 0 0] 32)) := ⟨_, rfl⟩
  rw [← hW]
  have hA := HW.out
  rw [← hW] at hA
  have HA := Lib.hid hA
  clear hA HW hW
  have hc := HA.out.keep (Below.refl _ W)
  have k0 := cell_of_block (j := 0) hc rfl
  have k1 := cell_of_block (j := 1) hc rfl
  have k2 := cell_of_block (j := 2) hc rfl
  have k3 := cell_of_block (j := 3) hc rfl
  have k4 := cell_of_block (j := 4) hc rfl
  have k5 := cell_of_block (j := 5) hc rfl
  clear hc
  go_upto_region 3 with (first
    | (go_at_call 32; refine (way32 [97] (some ⟨w.heap.size, 0, none⟩) 2 2 (some ⟨w.heap.size + 1 + 1, 0, none⟩) 1 1 none 0 (.slice none 0 0) (.slice none 0 0) [] [97] W (fun k e h => by cases h) (by simp) (by simp) (fun e h => by cases h) (by simp) (by simp)).mono ?_; rintro e w1 ⟨v1, c1, rfl, ha, hB1⟩; obtain ⟨rfl, A1, cc1, rfl⟩ := awake_way ha; have HB1 := Lib.hid hB1; clear ha hB1))
  clear k0 k1 k2 k3 k4 k5
  have hc := HA.out.keep HB1.out
  have k0 := cell_of_block (j := 0) hc rfl
  have k1 := cell_of_block (j := 1) hc rfl
  have k2 := cell_of_block (j := 2) hc rfl
  have k3 := cell_of_block (j := 3) hc rfl
  have k4 := cell_of_block (j := 4) hc rfl
  have k5 := cell_of_block (j := 5) hc rfl
  clear hc
  have HS1 := Lib.hid (HA.out.str.below HB1.out (Nat.le_refl _))
  have HT1 := Lib.hid (HA.out.set.below HB1.out (Nat.le_refl _))
  go_upto_region 4 with (first
    | (go_at_call 17; refine (points17 [97] (some ⟨w.heap.size, 0, none⟩) 2 (some ⟨w.heap.size + 1 + 1, 0, none⟩) 1 (.slice none 0 0) (.slice none 0 0) (.slice none 0 0) [([118], [1])] [[120], [121]] [118] w1 HS1.out HT1.out (by simp) (fun j => awake_picks _ j) (fun r hr => by (simp at hr; subst hr; simp))).mono ?_; rintro e w2 ⟨v2, zs, rfl, hz, ho, hB2⟩; obtain rfl := awake_nums hz; obtain ⟨A2, cc2, rfl⟩ := own_form ho; have HO := Lib.hid ho; have HB2 := Lib.hid hB2; clear hz ho hB2))
  clear k0 k1 k2 k3 k4 k5
  have HBW := Lib.hid (HB1.out.trans (HB2.out.mono HB1.out.size))
  have hc := HA.out.keep HBW.out
  have k0 := cell_of_block (j := 0) hc rfl
  have k1 := cell_of_block (j := 1) hc rfl
  have k2 := cell_of_block (j := 2) hc rfl
  have k3 := cell_of_block (j := 3) hc rfl
  have k4 := cell_of_block (j := 4) hc rfl
  have k5 := cell_of_block (j := 5) hc rfl
  clear hc
  obtain ⟨ad2, rfl, hy⟩ := (row_q (Go.Proofs.YtljfknneijmfoaaW.PrintWords.q_of_own HO.out)) 0 [121] rfl
  have hy0 : w2.cell? ad2 = some (.string ⟨#[121]⟩) := by
    have h := hy
    simp [Addr.add] at h
    exact h
  have HT2 := Lib.hid (HA.out.set.below HBW.out (Nat.le_refl _))
  clear hy
  have hbe : ((⟨#[121]⟩ : ByteArray).toList == (⟨#[121]⟩ : ByteArray).toList) = true := by simp
  have tok : True := trivial
  go_wp2_with (first
    | (go_at_call 16; have _t := tok; refine (alias16 [97] (some ⟨w.heap.size, 0, none⟩) 2 2 (some ⟨w.heap.size + 1 + 1, 0, none⟩) 1 (.slice none 0 0) (.slice none 0 0) (.slice none 0 0) [([118], [1])] [118] [119] w2 HT2.out (by simp) (fun j => awake_picks _ j) (fun j => awake_picks _ j) (fun r hr => by (simp at hr; subst hr; simp))).mono ?_; rintro e w3 ⟨t3, rfl, ht3, hB3⟩; have hf3 : t3 = false := awake_no ht3; subst hf3; have HB3 := Lib.hid hB3; have HBV := Lib.hid (HBW.out.trans (hB3.mono HBW.out.size)); have hc := HA.out.keep HBV.out; clear tok k0 k1 k2 k3 k4 k5; have k0 := cell_of_block (j := 0) hc rfl; have k1 := cell_of_block (j := 1) hc rfl; have k2 := cell_of_block (j := 2) hc rfl; have k3 := cell_of_block (j := 3) hc rfl; have k4 := cell_of_block (j := 4) hc rfl; have k5 := cell_of_block (j := 5) hc rfl; clear hc ht3 hB3)
    | (go_at_call 16; refine (alias16 [97] (some ⟨w.heap.size, 0, none⟩) 2 2 (some ⟨w.heap.size + 1 + 1, 0, none⟩) 1 (.slice none 0 0) (.slice none 0 0) (.slice none 0 0) [([118], [1])] [118] [118] w3 (HT2.out.below HB3.out (Nat.le_refl _)) (by simp) (fun j => awake_picks _ j) (fun j => awake_picks _ j) (fun r hr => by (simp at hr; subst hr; simp))).mono ?_; rintro e w4 ⟨t4, rfl, ht4, hB4⟩; have hf4 : t4 = true := awake_yes ht4; subst hf4; have HB4 := Lib.hid hB4; clear ht4 hB4))
  go_ret
  refine ⟨rfl, ?_⟩
  have hs := HBV.out.size
  have hz := HA.out.size
  exact HA.out.below.trans ((HBV.out.mono (by omega)).trans (HB4.out.mono (by omega)))
end Go.Proofs.Ytljfknneijmfoaa

namespace Go.Proofs.Ytljfknneijmfoaa
open Go.RowKit Go.Maps Go.WideMaps Go.Lib

theorem contains54 {w : World} {base : Nat} {v : Value} {xs : List S} (h : w.ownsRow base 9 1 v xs.length (xs.map encStr)) (x : S) :
    Calls Try.prog 54 #[v, .string (U x)] w fun e w' => e = .returned (.bool (xs.contains x)) ∧ w' = w := by
  by_cases hv : v = .slice none 0 0
  · subst hv
    have h0 : xs = [] := by
      rcases h.2 with ⟨_, h0⟩ | ⟨g, cap, cur, e0, _⟩
      · exact List.length_eq_zero_iff.1 h0
      · cases e0
    subst h0
    exact Try.slices_Contains_string_empty none 0 (U x) w
  · obtain ⟨g, cap, rfl, hg, hlt, hcap, hmax, hl, hH⟩ := holds_of_ownsRow h hv
    have hI := row_q (Go.Proofs.YtljfknneijmfoaaW.PrintWords.q_of_own h)
    have := Try.slices_Contains_string g 0 xs.length cap (xs.map U) (U x) w (by simp) (by unfold maxLen at hmax; omega) (by
      intro j hj
      have hj' : j < xs.length := by simpa using hj
      obtain ⟨ad, ea, hc⟩ := hI j _ (List.getElem?_eq_getElem hj')
      cases ea
      rw [Go.Proofs.YtljfknneijmfoaaW.PrintWords.add_at] at hc
      rw [hc]
      simp [List.getD_eq_getElem?_getD, List.getElem?_eq_getElem hj'])
    have he : Lib.containsS ((xs.map U).take xs.length) (U x) = xs.contains x := by
      rw [List.take_of_length_le (by simp), Bool.eq_iff_iff, Lib.containsS_iff, List.contains_iff_mem, List.mem_map]
      constructor
      · rintro ⟨y, hy, e⟩
        have : y = x := by rw [← B_U y, e, B_U]
        rwa [← this]
      · intro hx
        exact ⟨x, hx, rfl⟩
    rw [he] at this
    exact this

/-- Does a variable hold a site? -/
def holdsSite (sites : List S) (rows : List (S × List Int)) (site v : S) : Bool := (picks sites.length v rows).any fun z => siteAt sites z == site

/-- Who holds a site, as they stand. -/
def whoOf (sites : List S) (rows : List (S × List Int)) (site : S) (l : List (S × List Int)) : List S :=
  l.foldl (fun acc r => if holdsSite sites rows site r.1 && ! acc.contains r.1 then acc ++ [r.1] else acc) []

theorem whoOf_snoc (sites : List S) (rows : List (S × List Int)) (site : S) (k : Nat) (r : S × List Int) (h : rows[k]? = some r) :
    whoOf sites rows site (rows.take (k + 1)) = if holdsSite sites rows site r.1 && ! (whoOf sites rows site (rows.take k)).contains r.1 then whoOf sites rows site (rows.take k) ++ [r.1] else whoOf sites rows site (rows.take k) := by
  unfold whoOf
  rw [List.take_add_one, h]
  simp [List.foldl_append]

theorem whoOf_len (sites : List S) (rows : List (S × List Int)) (site : S) (l : List (S × List Int)) : (whoOf sites rows site l).length ≤ l.length := by
  unfold whoOf
  suffices h : ∀ acc : List S, (l.foldl (fun acc r => if holdsSite sites rows site r.1 && ! acc.contains r.1 then acc ++ [r.1] else acc) acc).length ≤ acc.length + l.length by simpa using h []
  induction l with
  | nil => intro acc; simp
  | cons r l ih =>
    intro acc
    rw [List.foldl_cons]
    refine Nat.le_trans (ih _) ?_
    split <;> simp <;> omega

theorem contains_points {sites : List S} {v : S} {rows : List (S × List Int)} {zs : List Int} (h : IsNums sites.length v rows zs) (site : S) : (zs.map (siteAt sites)).contains site = holdsSite sites rows site v := by
  rw [Bool.eq_iff_iff]
  unfold holdsSite
  rw [List.contains_iff_mem, List.any_eq_true, List.mem_map]
  constructor
  · rintro ⟨z, hz, rfl⟩
    exact ⟨z, (h.2 z).1 hz, by simp⟩
  · rintro ⟨z, hz, he⟩
    exact ⟨z, (h.2 z).2 hz, by simpa using he⟩

set_option maxRecDepth 100000 in
theorem who18 (e : S) (As : Option Addr) (cs : Nat) (Ar : Option Addr) (cr : Nat) (x3 x4 x5 : Value) (rows : List (S × List Int)) (sites : List S) (site : S) (w : World) (hS : StrRow w As sites) (hR : SetRow w Ar rows) (hn : rows.length ≤ 100000)
    (hs : ∀ v j, (picks sites.length v (rows.take j)).length ≤ 100000) (hl : ∀ r ∈ rows, r.2.length ≤ 100000) :
    Calls Try.prog 18 #[.agg (repV e As sites.length cs Ar rows.length cr x3 x4 x5), .string (U site)] w fun ee w' => ∃ v', ee = .returned v' ∧
      w'.ownsRow w.heap.size 9 1 v' (whoOf sites rows site rows).length ((whoOf sites rows site rows).map encStr) ∧ Below w.heap.size w w' := by
  obtain ⟨i9, hi9, hz90, hz91, hz92⟩ := info_parts info9
  have HR := Lib.hid hR
  have HS := Lib.hid hs
  have HL := Lib.hid hl
  have HSI := Lib.hid hS
  clear hR hs hl hS
  unfold repV
  go_enter Try.func18, Try.ntmps18
  go_upto_region 1 with (fail)
  obtain ⟨w1, hw1⟩ : ∃ w1, w1 = w.alloc (.cells #[.string (U e), .slice As sites.length cs, .slice Ar rows.length cr, x3, x4, x5] 32) := ⟨_, rfl⟩
  rw [← hw1]
  have hb1 : Below w.heap.size w w1 := by rw [hw1]; exact (Below.refl _ w).alloc (Nat.le_refl _) _
  have hz1 : w1.heap.size = w.heap.size + 1 := by rw [hw1]; exact World.size_alloc _ _
  have hc1 : w1.heap[w.heap.size]? = some (.cells #[.string (U e), .slice As sites.length cs, .slice Ar rows.length cr, x3, x4, x5] 32) := by rw [hw1]; exact block_new _ _
  have k2 := cell_of_block (j := 2) hc1 rfl
  have HB1 := Lib.hid hb1
  have HZ1 := Lib.hid hz1
  have HC1 := Lib.hid hc1
  have HR1 := Lib.hid (HR.out.below hb1 (Nat.le_refl _))
  have HS1 := Lib.hid (HSI.out.below hb1 (Nat.le_refl _))
  clear hb1 hz1 hc1 hw1
  go_wp2
  clear k2
  go_loopw [4, 10] (fun s4 i wr => ∃ (k : Nat) (A4 : Option Addr) (c4 : Nat), k ≤ rows.length ∧ i = .int .i64 k ∧ s4 = .slice A4 (whoOf sites rows site (rows.take k)).length c4 ∧
    wr.ownsRow w1.heap.size 9 1 (.slice A4 (whoOf sites rows site (rows.take k)).length c4) (whoOf sites rows site (rows.take k)).length ((whoOf sites rows site (rows.take k)).map encStr) ∧ Below w1.heap.size w1 wr) (fun _ i _ => rows.length - (intOf i).toNat)
  case atStart =>
    refine ⟨0, none, 0, Nat.zero_le _, rfl, ?_, ?_, Below.refl _ _⟩
    · simp [whoOf]
    · simpa [whoOf] using World.ownsRow_nil w1 w1.heap.size 9 1
  case round =>
    obtain ⟨k, A4, c4, hk, rfl, rfl, hown, hB⟩ := hrel
    have HOWN := Lib.hid hown
    have HB := Lib.hid hB
    clear hown hB
    by_cases hlt : k < rows.length
    · obtain ⟨⟨rv, rz⟩, hr⟩ : ∃ r, rows[k]? = some r := ⟨_, List.getElem?_eq_getElem hlt⟩
      obtain ⟨ad, Ai, ci, rfl, h0, h1, hci, hzr⟩ := HR1.out k _ hr
      dsimp only at h0 h1 hci hzr
      have lt0 := World.block_lt_of_cell? w1 _ h0
      replace h0 := (HB.out.cell lt0).trans h0
      replace h1 := (HB.out.cell (p := ⟨(ad.add (k * 2)).block, _, none⟩) lt0).trans h1
      have hkb : k ≤ 1000000 := by omega
      have hps := whoOf_snoc sites rows site k _ hr
      dsimp only at hps
      have HPS := Lib.hid hps
      clear hps hr hzr lt0
      have hwl := whoOf_len sites rows site (rows.take k)
      rw [List.length_take] at hwl
      go_upto_region 4 with (fail)
      obtain ⟨wo, hwo⟩ : ∃ wo : World, wo = wr.alloc (.cells #[.string (U rv), .slice Ai rz.length ci] 75) := ⟨_, rfl⟩
      rw [← hwo]
      have hBo : Below w1.heap.size w1 wo := by rw [hwo]; exact HB.out.alloc (HB.out.size) _
      have hOo := HOWN.out.alloc (.cells #[.string (U rv), .slice Ai rz.length ci] 75)
      have hbs := block_new wr (.cells #[.string (U rv), .slice Ai rz.length ci] 75)
      have hws : wo.heap.size = wr.heap.size + 1 := by rw [hwo]; exact World.size_alloc _ _
      rw [← hwo] at hOo hbs
      have hcc := (hBo.block w.heap.size (by have := HZ1.out; omega)).trans HC1.out
      have k0 := cell_of_block (j := 0) hcc rfl
      have k1 := cell_of_block (j := 1) hcc rfl
      have k2 := cell_of_block (j := 2) hcc rfl
      have k3 := cell_of_block (j := 3) hcc rfl
      have k4 := cell_of_block (j := 4) hcc rfl
      have k5 := cell_of_block (j := 5) hcc rfl
      have p0 := cell_of_block (j := 0) hbs rfl
      have HBO := Lib.hid hBo
      have HOO := Lib.hid hOo
      have HBS := Lib.hid hbs
      clear hBo hOo hbs hwo hcc
      have tok : True := trivial
      by_cases hh : holdsSite sites rows site rv = true
      · have HH := Lib.hid hh
        clear hh
        by_cases hc : (whoOf sites rows site (rows.take k)).contains rv = true
        · have HC := Lib.hid hc
          clear hc
          go_wp2_with (first
            | (go_at_call 17; refine (points17 e As cs (some ad) cr x3 x4 x5 rows sites rv wo (HS1.out.below HBO.out (Nat.le_refl _)) (HR1.out.below HBO.out (Nat.le_refl _)) hn (HS.out rv) HL.out).mono ?_; rintro ee w2 ⟨v2, zs, rfl, hz, ho, hB2⟩; have hcp := contains_points hz site; have HO := Lib.hid ho; have HCP := Lib.hid hcp; have hq := (hB2.block wr.heap.size (by omega)).trans HBS.out; have q0 := cell_of_block (j := 0) hq rfl; have HO2 := Lib.hid (own_below HOO.out hB2 (Nat.le_refl _)); have HBT := Lib.hid (HBO.out.trans (hB2.mono HBO.out.size)); clear hz ho hB2 hcp hq)
            | (go_at_call 54; have _t := tok; refine (contains54 HO.out site).mono ?_; rintro ee w3 ⟨rfl, rfl⟩; rw [HCP.out, HH.out]; clear tok)
            | (go_at_call 54; refine (contains54 HO2.out rv).mono ?_; rintro ee w4 ⟨rfl, rfl⟩; rw [HC.out]))
          go_roundw
          case measure => simp [intOf]; omega
          case rel =>
            have hps := HPS.out
            rw [HH.out, HC.out] at hps
            simp only [Bool.not_true, Bool.and_false, Bool.false_eq_true, if_false] at hps
            refine ⟨k + 1, A4, c4, hlt, by go_num, by rw [hps], ?_, HBT.out⟩
            rw [hps]
            exact HO2.out
        · have hc : (whoOf sites rows site (rows.take k)).contains rv = false := by simpa using hc
          have HC := Lib.hid hc
          clear hc
          go_wp2_with (first
            | (go_at_call 17; refine (points17 e As cs (some ad) cr x3 x4 x5 rows sites rv wo (HS1.out.below HBO.out (Nat.le_refl _)) (HR1.out.below HBO.out (Nat.le_refl _)) hn (HS.out rv) HL.out).mono ?_; rintro ee w2 ⟨v2, zs, rfl, hz, ho, hB2⟩; have hcp := contains_points hz site; have HO := Lib.hid ho; have HCP := Lib.hid hcp; have hq := (hB2.block wr.heap.size (by omega)).trans HBS.out; have q0 := cell_of_block (j := 0) hq rfl; have HO2 := Lib.hid (own_below HOO.out hB2 (Nat.le_refl _)); have HBT := Lib.hid (HBO.out.trans (hB2.mono HBO.out.size)); clear hz ho hB2 hcp hq)
            | (go_at_call 54; have _t := tok; refine (contains54 HO.out site).mono ?_; rintro ee w3 ⟨rfl, rfl⟩; rw [HCP.out, HH.out]; clear tok)
            | (go_at_call 54; refine (contains54 HO2.out rv).mono ?_; rintro ee w4 ⟨rfl, rfl⟩; rw [HC.out])
            | (at_builtin; refine wpList_append_lies _ (by rfl) _ _ _ (by rfl) w1.heap.size 9 i9 _ 1 16 Try.underlying22 hi9 hz90 hz91 hz92 rfl (by omega) (.slice A4 (whoOf sites rows site (rows.take k)).length c4) _ _ (by rfl) (HO2.out.alloc _) ⟨w4.heap.size, 0, none⟩ 1 1 [.string (U rv)] (by rfl) (by rfl) (World.news_of_block (cs := #[.string (U rv)]) (t := 9) (fr := (0, 0)) (heap_alloc_new w4 _)) (by simp [Value.oneCell']) (by omega) (by unfold maxLen; omega) (by omega) (by have := HBT.out.size; simp; omega) (w4.heap.size + 1) (by simp) ?_; intro gg cap' w5 hown5 hgrow hat hlt5; have HO5 := Lib.hid hown5; have HG5 := Lib.hid hgrow; clear hown5 hgrow hat hlt5))
          go_roundw
          case measure => simp [intOf]; omega
          case rel =>
            have hps := HPS.out
            rw [HH.out, HC.out] at hps
            simp only [Bool.not_false, Bool.and_true, if_true] at hps
            refine ⟨k + 1, some ⟨gg, 0, none⟩, cap', hlt, by go_num, by rw [hps]; simp, ?_, ?_⟩
            · rw [hps]
              have := HO5.out
              simpa [enc_U] using this
            · have hb := HBT.out.alloc HBT.out.size (.cells #[.string (U rv)] 9)
              exact hb.grown HG5.out hb.size (fun q hq => (HO2.out.lt q hq).1)
      · have hh : holdsSite sites rows site rv = false := by simpa using hh
        have HH := Lib.hid hh
        clear hh
        go_wp2_with (first
          | (go_at_call 17; refine (points17 e As cs (some ad) cr x3 x4 x5 rows sites rv wo (HS1.out.below HBO.out (Nat.le_refl _)) (HR1.out.below HBO.out (Nat.le_refl _)) hn (HS.out rv) HL.out).mono ?_; rintro ee w2 ⟨v2, zs, rfl, hz, ho, hB2⟩; have hcp := contains_points hz site; have HO := Lib.hid ho; have HCP := Lib.hid hcp; have hq := (hB2.block wr.heap.size (by omega)).trans HBS.out; have q0 := cell_of_block (j := 0) hq rfl; have HO2 := Lib.hid (own_below HOO.out hB2 (Nat.le_refl _)); have HBT := Lib.hid (HBO.out.trans (hB2.mono HBO.out.size)); clear hz ho hB2 hcp hq)
          | (go_at_call 54; have _t := tok; refine (contains54 HO.out site).mono ?_; rintro ee w3 ⟨rfl, rfl⟩; rw [HCP.out, HH.out]; clear tok))
        go_roundw
        case measure => simp [intOf]; omega
        case rel =>
          have hps := HPS.out
          rw [HH.out] at hps
          simp only [Bool.false_and, Bool.false_eq_true, if_false] at hps
          refine ⟨k + 1, A4, c4, hlt, by go_num, by rw [hps], ?_, HBT.out⟩
          rw [hps]
          exact HO2.out
    · have hke : k = rows.length := by omega
      subst hke
      go_wp2_with fail
      go_ret
      have hs1 := HB1.out.size
      have ho := own_base HOWN.out hs1
      have he : rows.take rows.length = rows := List.take_length
      refine ⟨_, rfl, ?_, HB1.out.trans (HB.out.mono hs1)⟩
      show wr.ownsRow w.heap.size 9 1 (.slice A4 (whoOf sites rows site (List.take rows.length rows)).length c4) _ _
      rw [he] at ho ⊢
      exact ho
end Go.Proofs.Ytljfknneijmfoaa
