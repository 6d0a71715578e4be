import Derived.Test.YtljfknneijmfoaaAwakeQ
namespace Go.Proofs.Ytljfknneijmfoaa
open Go.RowKit Go.Maps Go.WideMaps Go.Lib

theorem contains54 {w : World} {base : Nat} {v : Value} {xs : List S} (h : w.ownsRow base 9 1 v xs.length (xs.map encStr)) (x : S) :
    Calls Try.prog 54 #[v, .string (U x)] w fun e w' => e = .returned (.bool (xs.contains x)) ∧ w' = w := by
  by_cases hv : v = .slice none 0 0
  · subst hv
    have h0 : xs = [] := by
      rcases h.2 with ⟨_, h0⟩ | ⟨g, cap, cur, e0, _⟩
      · exact List.length_eq_zero_iff.1 h0
      · cases e0
    subst h0
    exact Try.slices_Contains_string_empty none 0 (U x) w
  · obtain ⟨g, cap, rfl, hg, hlt, hcap, hmax, hl, hH⟩ := holds_of_ownsRow h hv
    have hI := row_q (Go.Proofs.YtljfknneijmfoaaW.PrintWords.q_of_own h)
    have := Try.slices_Contains_string g 0 xs.length cap (xs.map U) (U x) w (by simp) (by unfold maxLen at hmax; omega) (by
      intro j hj
      have hj' : j < xs.length := by simpa using hj
      obtain ⟨ad, ea, hc⟩ := hI j _ (List.getElem?_eq_getElem hj')
      cases ea
      rw [Go.Proofs.YtljfknneijmfoaaW.PrintWords.add_at] at hc
      rw [hc]
      simp [List.getD_eq_getElem?_getD, List.getElem?_eq_getElem hj'])
    have he : Lib.containsS ((xs.map U).take xs.length) (U x) = xs.contains x := by
      rw [List.take_of_length_le (by simp), Bool.eq_iff_iff, Lib.containsS_iff, List.contains_iff_mem, List.mem_map]
      constructor
      · rintro ⟨y, hy, e⟩
        have : y = x := by rw [← B_U y, e, B_U]
        rwa [← this]
      · intro hx
        exact ⟨x, hx, rfl⟩
    rw [he] at this
    exact this

/-- Does a variable hold a site? -/
def holdsSite (sites : List S) (rows : List (S × List Int)) (site v : S) : Bool := (picks sites.length v rows).any fun z => siteAt sites z == site

/-- Who holds a site, as they stand. -/
def whoOf (sites : List S) (rows : List (S × List Int)) (site : S) (l : List (S × List Int)) : List S :=
  l.foldl (fun acc r => if holdsSite sites rows site r.1 && ! acc.contains r.1 then acc ++ [r.1] else acc) []

theorem whoOf_snoc (sites : List S) (rows : List (S × List Int)) (site : S) (k : Nat) (r : S × List Int) (h : rows[k]? = some r) :
    whoOf sites rows site (rows.take (k + 1)) = if holdsSite sites rows site r.1 && ! (whoOf sites rows site (rows.take k)).contains r.1 then whoOf sites rows site (rows.take k) ++ [r.1] else whoOf sites rows site (rows.take k) := by
  unfold whoOf
  rw [List.take_add_one, h]
  simp [List.foldl_append]

theorem whoOf_len (sites : List S) (rows : List (S × List Int)) (site : S) (l : List (S × List Int)) : (whoOf sites rows site l).length ≤ l.length := by
  unfold whoOf
  suffices h : ∀ acc : List S, (l.foldl (fun acc r => if holdsSite sites rows site r.1 && ! acc.contains r.1 then acc ++ [r.1] else acc) acc).length ≤ acc.length + l.length by simpa using h []
  induction l with
  | nil => intro acc; simp
  | cons r l ih =>
    intro acc
    rw [List.foldl_cons]
    refine Nat.le_trans (ih _) ?_
    split <;> simp <;> omega

theorem contains_points {sites : List S} {v : S} {rows : List (S × List Int)} {zs : List Int} (h : IsNums sites.length v rows zs) (site : S) : (zs.map (siteAt sites)).contains site = holdsSite sites rows site v := by
  rw [Bool.eq_iff_iff]
  unfold holdsSite
  rw [List.contains_iff_mem, List.any_eq_true, List.mem_map]
  constructor
  · rintro ⟨z, hz, rfl⟩
    exact ⟨z, (h.2 z).1 hz, by simp⟩
  · rintro ⟨z, hz, he⟩
    exact ⟨z, (h.2 z).2 hz, by simpa using he⟩

set_option maxRecDepth 100000 in
theorem who18 (e : S) (As : Option Addr) (cs : Nat) (Ar : Option Addr) (cr : Nat) (x3 x4 x5 : Value) (rows : List (S × List Int)) (sites : List S) (site : S) (w : World) (hS : StrRow w As sites) (hR : SetRow w Ar rows) (hn : rows.length ≤ 100000)
    (hs : ∀ v j, (picks sites.length v (rows.take j)).length ≤ 100000) (hl : ∀ r ∈ rows, r.2.length ≤ 100000) :
    Calls Try.prog 18 #[.agg (repV e As sites.length cs Ar rows.length cr x3 x4 x5), .string (U site)] w fun ee w' => ∃ v', ee = .returned v' ∧
      w'.ownsRow w.heap.size 9 1 v' (whoOf sites rows site rows).length ((whoOf sites rows site rows).map encStr) ∧ Below w.heap.size w w' := by
  obtain ⟨i9, hi9, hz90, hz91, hz92⟩ := info_parts info9
  have HR := Lib.hid hR
  have HS := Lib.hid hs
  have HL := Lib.hid hl
  have HSI := Lib.hid hS
  clear hR hs hl hS
  unfold repV
  go_enter Try.func18, Try.ntmps18
  go_upto_region 1 with (fail)
  obtain ⟨w1, hw1⟩ : ∃ w1, w1 = w.alloc (.cells #[.string (U e), .slice As sites.length cs, .slice Ar rows.length cr, x3, x4, x5] 32) := ⟨_, rfl⟩
  rw [← hw1]
  have hb1 : Below w.heap.size w w1 := by rw [hw1]; exact (Below.refl _ w).alloc (Nat.le_refl _) _
  have hz1 : w1.heap.size = w.heap.size + 1 := by rw [hw1]; exact World.size_alloc _ _
  have hc1 : w1.heap[w.heap.size]? = some (.cells #[.string (U e), .slice As sites.length cs, .slice Ar rows.length cr, x3, x4, x5] 32) := by rw [hw1]; exact block_new _ _
  have k2 := cell_of_block (j := 2) hc1 rfl
  have HB1 := Lib.hid hb1
  have HZ1 := Lib.hid hz1
  have HC1 := Lib.hid hc1
  have HR1 := Lib.hid (HR.out.below hb1 (Nat.le_refl _))
  have HS1 := Lib.hid (HSI.out.below hb1 (Nat.le_refl _))
  clear hb1 hz1 hc1 hw1
  go_wp2
  clear k2
  go_loopw [4, 10] (fun s4 i wr => ∃ (k : Nat) (A4 : Option Addr) (c4 : Nat), k ≤ rows.length ∧ i = .int .i64 k ∧ s4 = .slice A4 (whoOf sites rows site (rows.take k)).length c4 ∧
    wr.ownsRow w1.heap.size 9 1 (.slice A4 (whoOf sites rows site (rows.take k)).length c4) (whoOf sites rows site (rows.take k)).length ((whoOf sites rows site (rows.take k)).map encStr) ∧ Below w1.heap.size w1 wr) (fun _ i _ => rows.length - (intOf i).toNat)
  case atStart =>
    refine ⟨0, none, 0, Nat.zero_le _, rfl, ?_, ?_, Below.refl _ _⟩
    · simp [whoOf]
    · simpa [whoOf] using World.ownsRow_nil w1 w1.heap.size 9 1
  case round =>
    obtain ⟨k, A4, c4, hk, rfl, rfl, hown, hB⟩ := hrel
    have HOWN := Lib.hid hown
    have HB := Lib.hid hB
    clear hown hB
    by_cases hlt : k < rows.length
    · obtain ⟨⟨rv, rz⟩, hr⟩ : ∃ r, rows[k]? = some r := ⟨_, List.getElem?_eq_getElem hlt⟩
      obtain ⟨ad, Ai, ci, rfl, h0, h1, hci, hzr⟩ := HR1.out k _ hr
      dsimp only at h0 h1 hci hzr
      have lt0 := World.block_lt_of_cell? w1 _ h0
      replace h0 := (HB.out.cell lt0).trans h0
      replace h1 := (HB.out.cell (p := ⟨(ad.add (k * 2)).block, _, none⟩) lt0).trans h1
      have hkb : k ≤ 1000000 := by omega
      have hps := whoOf_snoc sites rows site k _ hr
      dsimp only at hps
      have HPS := Lib.hid hps
      clear hps hr hzr lt0
      have hwl := whoOf_len sites rows site (rows.take k)
      rw [List.length_take] at hwl
      go_upto_region 4 with (fail)
      obtain ⟨wo, hwo⟩ : ∃ wo : World, wo = wr.alloc (.cells #[.string (U rv), .slice Ai rz.length ci] 75) := ⟨_, rfl⟩
      rw [← hwo]
      have hBo : Below w1.heap.size w1 wo := by rw [hwo]; exact HB.out.alloc (HB.out.size) _
      have hOo := HOWN.out.alloc (.cells #[.string (U rv), .slice Ai rz.length ci] 75)
      have hbs := block_new wr (.cells #[.string (U rv), .slice Ai rz.length ci] 75)
      have hws : wo.heap.size = wr.heap.size + 1 := by rw [hwo]; exact World.size_alloc _ _
      rw [← hwo] at hOo hbs
      have hcc := (hBo.block w.heap.size (by have := HZ1.out; omega)).trans HC1.out
      have k0 := cell_of_block (j := 0) hcc rfl
      have k1 := cell_of_block (j := 1) hcc rfl
      have k2 := cell_of_block (j := 2) hcc rfl
      have k3 := cell_of_block (j := 3) hcc rfl
      have k4 := cell_of_block (j := 4) hcc rfl
      have k5 := cell_of_block (j := 5) hcc rfl
      have p0 := cell_of_block (j := 0) hbs rfl
      have HBO := Lib.hid hBo
      have HOO := Lib.hid hOo
      have HBS := Lib.hid hbs
      clear hBo hOo hbs hwo hcc
      have tok : True := trivial
      by_cases hh : holdsSite sites rows site rv = true
      · have HH := Lib.hid hh
        clear hh
        by_cases hc : (whoOf sites rows site (rows.take k)).contains rv = true
        · have HC := Lib.hid hc
          clear hc
          go_wp2_with (first
            | (go_at_call 17; refine (points17 e As cs (some ad) cr x3 x4 x5 rows sites rv wo (HS1.out.below HBO.out (Nat.le_refl _)) (HR1.out.below HBO.out (Nat.le_refl _)) hn (HS.out rv) HL.out).mono ?_; rintro ee w2 ⟨v2, zs, rfl, hz, ho, hB2⟩; have hcp := contains_points hz site; have HO := Lib.hid ho; have HCP := Lib.hid hcp; have hq := (hB2.block wr.heap.size (by omega)).trans HBS.out; have q0 := cell_of_block (j := 0) hq rfl; have HO2 := Lib.hid (own_below HOO.out hB2 (Nat.le_refl _)); have HBT := Lib.hid (HBO.out.trans (hB2.mono HBO.out.size)); clear hz ho hB2 hcp hq)
            | (go_at_call 54; have _t := tok; refine (contains54 HO.out site).mono ?_; rintro ee w3 ⟨rfl, rfl⟩; rw [HCP.out, HH.out]; clear tok)
            | (go_at_call 54; refine (contains54 HO2.out rv).mono ?_; rintro ee w4 ⟨rfl, rfl⟩; rw [HC.out]))
          go_roundw
          case measure => simp [intOf]; omega
          case rel =>
            have hps := HPS.out
            rw [HH.out, HC.out] at hps
            simp only [Bool.not_true, Bool.and_false, Bool.false_eq_true, if_false] at hps
            refine ⟨k + 1, A4, c4, hlt, by go_num, by rw [hps], ?_, HBT.out⟩
            rw [hps]
            exact HO2.out
        · have hc : (whoOf sites rows site (rows.take k)).contains rv = false := by simpa using hc
          have HC := Lib.hid hc
          clear hc
          go_wp2_with (first
            | (go_at_call 17; refine (points17 e As cs (some ad) cr x3 x4 x5 rows sites rv wo (HS1.out.below HBO.out (Nat.le_refl _)) (HR1.out.below HBO.out (Nat.le_refl _)) hn (HS.out rv) HL.out).mono ?_; rintro ee w2 ⟨v2, zs, rfl, hz, ho, hB2⟩; have hcp := contains_points hz site; have HO := Lib.hid ho; have HCP := Lib.hid hcp; have hq := (hB2.block wr.heap.size (by omega)).trans HBS.out; have q0 := cell_of_block (j := 0) hq rfl; have HO2 := Lib.hid (own_below HOO.out hB2 (Nat.le_refl _)); have HBT := Lib.hid (HBO.out.trans (hB2.mono HBO.out.size)); clear hz ho hB2 hcp hq)
            | (go_at_call 54; have _t := tok; refine (contains54 HO.out site).mono ?_; rintro ee w3 ⟨rfl, rfl⟩; rw [HCP.out, HH.out]; clear tok)
            | (go_at_call 54; refine (contains54 HO2.out rv).mono ?_; rintro ee w4 ⟨rfl, rfl⟩; rw [HC.out])
            | (at_builtin; refine wpList_append_lies _ (by rfl) _ _ _ (by rfl) w1.heap.size 9 i9 _ 1 16 Try.underlying22 hi9 hz90 hz91 hz92 rfl (by omega) (.slice A4 (whoOf sites rows site (rows.take k)).length c4) _ _ (by rfl) (HO2.out.alloc _) ⟨w4.heap.size, 0, none⟩ 1 1 [.string (U rv)] (by rfl) (by rfl) (World.news_of_block (cs := #[.string (U rv)]) (t := 9) (fr := (0, 0)) (heap_alloc_new w4 _)) (by simp [Value.oneCell']) (by omega) (by unfold maxLen; omega) (by omega) (by have := HBT.out.size; simp; omega) (w4.heap.size + 1) (by simp) ?_; intro gg cap' w5 hown5 hgrow hat hlt5; have HO5 := Lib.hid hown5; have HG5 := Lib.hid hgrow; clear hown5 hgrow hat hlt5))
          go_roundw
          case measure => simp [intOf]; omega
          case rel =>
            have hps := HPS.out
            rw [HH.out, HC.out] at hps
            simp only [Bool.not_false, Bool.and_true, if_true] at hps
            refine ⟨k + 1, some ⟨gg, 0, none⟩, cap', hlt, by go_num, by rw [hps]; simp, ?_, ?_⟩
            · rw [hps]
              have := HO5.out
              simpa [enc_U] using this
            · have hb := HBT.out.alloc HBT.out.size (.cells #[.string (U rv)] 9)
              exact hb.grown HG5.out hb.size (fun q hq => (HO2.out.lt q hq).1)
      · have hh : holdsSite sites rows site rv = false := by simpa using hh
        have HH := Lib.hid hh
        clear hh
        go_wp2_with (first
          | (go_at_call 17; refine (points17 e As cs (some ad) cr x3 x4 x5 rows sites rv wo (HS1.out.below HBO.out (Nat.le_refl _)) (HR1.out.below HBO.out (Nat.le_refl _)) hn (HS.out rv) HL.out).mono ?_; rintro ee w2 ⟨v2, zs, rfl, hz, ho, hB2⟩; have hcp := contains_points hz site; have HO := Lib.hid ho; have HCP := Lib.hid hcp; have hq := (hB2.block wr.heap.size (by omega)).trans HBS.out; have q0 := cell_of_block (j := 0) hq rfl; have HO2 := Lib.hid (own_below HOO.out hB2 (Nat.le_refl _)); have HBT := Lib.hid (HBO.out.trans (hB2.mono HBO.out.size)); clear hz ho hB2 hcp hq)
          | (go_at_call 54; have _t := tok; refine (contains54 HO.out site).mono ?_; rintro ee w3 ⟨rfl, rfl⟩; rw [HCP.out, HH.out]; clear tok))
        go_roundw
        case measure => simp [intOf]; omega
        case rel =>
          have hps := HPS.out
          rw [HH.out] at hps
          simp only [Bool.false_and, Bool.false_eq_true, if_false] at hps
          refine ⟨k + 1, A4, c4, hlt, by go_num, by rw [hps], ?_, HBT.out⟩
          rw [hps]
          exact HO2.out
    · have hke : k = rows.length := by omega
      subst hke
      go_wp2_with fail
      go_ret
      have hs1 := HB1.out.size
      have ho := own_base HOWN.out hs1
      have he : rows.take rows.length = rows := List.take_length
      refine ⟨_, rfl, ?_, HB1.out.trans (HB.out.mono hs1)⟩
      show wr.ownsRow w.heap.size 9 1 (.slice A4 (whoOf sites rows site (List.take rows.length rows)).length c4) _ _
      rw [he] at ho ⊢
      exact ho
end Go.Proofs.Ytljfknneijmfoaa
