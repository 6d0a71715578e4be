import Derived.Test.YtljfknneijmfoaaQs
import Derived.Test.YtljfknneijmfoaaFq20
namespace Go.Proofs.Ytljfknneijmfoaa
open Go.RowKit Go.Maps Go.WideMaps
open Go.Proofs.YtljfknneijmfoaaW.PrintWords

theorem texts_l0 (l : List S) (hl : l.length ≤ 9223372036854775807) : ∀ (m i : Nat), l.length - i = m → i ≤ l.length → Ev (fun k => PQueryAsks.lanternalike_Texts.l0 k (l.map U) (l.map U) (i : Int)) true := by
  intro m
  induction m with
  | zero =>
    intro i hm hi
    have : i = l.length := by omega
    subst this
    refine Ev.step (f := fun _ => some true) (fun k => ?_) (Ev.now true)
    show PQueryAsks.lanternalike_Texts.l0 (k + 1) _ _ _ = _
    rw [PQueryAsks.lanternalike_Texts.l0]
    rw [if_neg (by simp)]
  | succ m ih =>
    intro i hm hi
    refine Ev.step (fun k => ?_) (ih (i + 1) (by omega) (by omega))
    show PQueryAsks.lanternalike_Texts.l0 (k + 1) _ _ _ = _
    rw [PQueryAsks.lanternalike_Texts.l0]
    rw [if_pos (by simp; omega), if_pos (by omega), if_pos (by simp; omega), if_pos rfl, show wrap64 ((i : Int) + 1) = ((i + 1 : Nat) : Int) by unfold wrap64; omega]

/-- Texts of two that read alike. -/
theorem texts20 {A0 : Option Addr} {c0 : Nat} {A1 : Option Addr} {c1 : Nat} {l : List S} {w : World} (h0 : StrRow w A0 l) (hc0 : l.length ≤ c0) (h1 : StrRow w A1 l) (hc1 : l.length ≤ c1) (hl : l.length ≤ 9223372036854775807) :
    Calls Try.prog 20 #[.slice A0 l.length c0, .slice A1 l.length c1] w fun e w' => e = .returned (.bool true) ∧ Below w.heap.size w w' := by
  obtain ⟨k, hk⟩ := (texts_l0 l hl l.length 0 (by omega) (by omega)).rounds
  have hf : PQueryAsks.lanternalike_Texts.f k (l.map U) (l.map U) = some true := by
    unfold PQueryAsks.lanternalike_Texts.f
    rw [if_pos rfl]
    exact hk
  have hC0 := C_of_strs h0 hl
  have hC1 := C_of_strs h1 hl
  have := PQueryAsks.lanternalike_Texts.calls k A0 c0 (l.map U) A1 c1 (l.map U) true w (by simpa using hC0) (by simpa using hc0) (by simpa using hC1) (by simpa using hc1) hf
  simp only [List.length_map] at this
  exact this.mono fun _ _ ⟨h1, h2⟩ => ⟨h1, h2.below⟩
end Go.Proofs.Ytljfknneijmfoaa
