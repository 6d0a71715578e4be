import Derived.Test.YtljfknneijmfoaaE25
import Derived.Test.YtljfknneijmfoaaRefP
import Derived.Test.YtljfknneijmfoaaAwk26
namespace Go.Proofs.Ytljfknneijmfoaa
open Go.RowKit Go.Maps Go.WideMaps Go.Lib
open Go.Proofs.YtljfknneijmfoaaW.PrintWords (q_of_own q_slice add_at)

theorem wayAgreeG {base : Nat} {w' : World} {es : List (S × Int × S)} {f t : S} {v : Value} {c z : Int} {r : List S} (h : WayAns base w' (ends es) f t v c) (h2 : Res es f t r z) : c = z ∧ ∃ A cc, v = .slice A r.length cc ∧ r.length ≤ cc ∧ StrRow w' A r := by
  rcases h with ⟨rfl, ps, d, hG, hh, ho⟩ | ⟨rfl, rfl, hno⟩
  · rcases h2 with ⟨rfl, d', hG', hh'⟩ | ⟨rfl, rfl, hno⟩
    · match ps, hh with
      | a :: p, hh =>
        match r, hh' with
        | b :: q, hh' =>
          cases hh
          cases hh'
          have hd := hG.dist.uniq hG'.dist
          subst hd
          have hpq := hG.uniq hG'
          subst hpq
          obtain ⟨A, cc, rfl, hle⟩ := q_slice (q_of_own ho)
          exact ⟨rfl, A, cc, rfl, hle, row_q (q_of_own ho)⟩
    · match ps, hh with
      | a :: p, hh =>
        cases hh
        exact absurd hG.dist (hno d)
  · rcases h2 with ⟨rfl, d', hG', hh'⟩ | ⟨rfl, rfl, _⟩
    · match r, hh' with
      | b :: q, hh' =>
        cases hh'
        exact absurd hG'.dist (hno d')
    · exact ⟨rfl, none, 0, rfl, Nat.le_refl _, fun k x hx => by simp at hx⟩

set_option maxRecDepth 100000 in
set_option maxHeartbeats 4000000 in
theorem graphPaths5 (A : Option Addr) (cap : Nat) (es : List (S × Int × S)) (f t : S) (w : World)
    (h3 : es.length ≤ cap ∧ cap ≤ maxLen ∧ EdgeRow w A es ∧ ∀ e ∈ es, e.1.length ≤ maxLen ∧ e.2.2.length ≤ maxLen ∧ -9223372036854775808 ≤ e.2.1 ∧ e.2.1 ≤ 9223372036854775807)
    (hf : f.length ≤ 9223372036854775807) (ht : t.length ≤ 9223372036854775807) :
    Calls Try.prog 5 #[.slice A es.length cap, .string (U f), .string (U t)] w fun ee w' => ee = .returned (.bool true) ∧ Below w.heap.size w w' := by
  have H25 := Lib.hid (edges25 (w := w) h3)
  have HE := Lib.hid h3.2.2.1
  have HC := Lib.hid h3.1
  clear h3
  have szf : ((U f).size : Int) = f.length := by rw [size_U]
  have szt : ((U t).size : Int) = t.length := by rw [size_U]
  go_enter Try.func5, Try.ntmps5
  have HSF : Hid ((U f).size = f.length) := Lib.hid (by rw [size_U])
  have HST : Hid ((U t).size = t.length) := Lib.hid (by rw [size_U])
  by_cases hlf : f.length ≤ 50
  · by_cases hlt : t.length ≤ 50
    · go_wp2_with (first
        | (go_at_call 25; refine H25.out.mono ?_; rintro ee w1 ⟨z, rfl, hz, hB1⟩; have hcur := hB1; have HZ := Lib.hid hz; clear hz hB1)
        | (go_at_call 27; have hz := HZ.out (by omega); have HZ2 := Lib.hid hz; refine (path27' A cap es f t _ (HE.out.below hcur (Nat.le_refl _)) (by omega) HC.out (fun e he => by have := HZ2.out.2 e he; omega) (by omega) (by omega)).mono ?_; rintro ee w3 ⟨v3, c3, rfl, hWA, hB3⟩; replace hcur := hcur.trans (hB3.mono hcur.size); have HWA := Lib.hid hWA; clear hB3 hWA hz)
        | (go_at_call 28; have hz := HZ2.out.1; refine (refPath28 (HE.out.below hcur (Nat.le_refl _)) HC.out (by omega) f t).mono ?_; rintro ee w4 ⟨A8, c8, r8, z8, rfl, hle8, hl8, hstr8, hres8, hB4⟩; obtain ⟨rfl, A7, c7, rfl, hle7, hstr7⟩ := wayAgreeG HWA.out hres8; have HSTR7 := Lib.hid (hstr7.below hB4 (Nat.le_refl _)); have HSTR8 := Lib.hid hstr8; have HLE7 := Lib.hid hle7; have HLE8 := Lib.hid hle8; replace hcur := hcur.trans (hB4.mono hcur.size); clear hle8 hstr8 hres8 hB4 hle7 hstr7 hz)
        | (go_at_call 20; refine (texts20 HSTR7.out HLE7.out HSTR8.out HLE8.out (by omega)).mono ?_; rintro ee w5 ⟨rfl, hB5⟩; replace hcur := hcur.trans (hB5.mono hcur.size); clear hB5)
        | (go_at_call 26; refine (awake26 _).mono ?_; rintro ee w2 ⟨rfl, hB2⟩; replace hcur := hcur.trans (hB2.mono hcur.size); clear hB2))
      all_goals
        go_ret
        exact ⟨rfl, hcur⟩
    · go_wp2_with (first
        | (go_at_call 25; refine H25.out.mono ?_; rintro ee w1 ⟨z, rfl, hz, hB1⟩; have hcur := hB1; have HZ := Lib.hid hz; clear hz hB1)
        | (go_at_call 26; refine (awake26 _).mono ?_; rintro ee w2 ⟨rfl, hB2⟩; replace hcur := hcur.trans (hB2.mono hcur.size); clear hB2))
      all_goals
        go_ret
        exact ⟨rfl, hcur⟩
  · go_wp2_with (first
      | (go_at_call 25; refine H25.out.mono ?_; rintro ee w1 ⟨z, rfl, hz, hB1⟩; have hcur := hB1; have HZ := Lib.hid hz; clear hz hB1)
      | (go_at_call 26; refine (awake26 _).mono ?_; rintro ee w2 ⟨rfl, hB2⟩; replace hcur := hcur.trans (hB2.mono hcur.size); clear hB2))
    all_goals
      go_ret
      exact ⟨rfl, hcur⟩
end Go.Proofs.Ytljfknneijmfoaa
