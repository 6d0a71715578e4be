import Derived.Test.YtljfknneijmfoaaFar
namespace Go.Proofs.Ytljfknneijmfoaa
open Go.RowKit Go.Maps Go.WideMaps Go.Lib
open Go.Proofs.YtljfknneijmfoaaW.PrintWords (q_of_own q_slice q_cells add_at)

theorem ends_sizes {es : List (S × Int × S)} (hs : ∀ e ∈ es, e.1.length ≤ 100000 ∧ e.2.2.length ≤ 100000) : ∀ e ∈ ends es, e.1.length ≤ 100000 ∧ e.2.length ≤ 100000 := by
  intro e he
  unfold ends at he
  obtain ⟨x, hx, rfl⟩ := List.mem_map.1 he
  exact hs x hx

set_option maxRecDepth 100000 in
set_option maxHeartbeats 4000000 in
theorem nodes31 (A : Option Addr) (cap : Nat) (es : List (S × Int × S)) (w : World) (hE : EdgeRow w A es) (hn : es.length ≤ 100000) (hs : ∀ e ∈ es, e.1.length ≤ 100000 ∧ e.2.2.length ≤ 100000) :
    Calls Try.prog 31 #[.slice A es.length cap] w fun e w' => ∃ A' c' out, e = .returned (.slice A' out.length c') ∧ out.length ≤ c' ∧ out.length ≤ 200000 ∧ StrRow w' A' out ∧ IsNodes (ends es) out ∧ Below w.heap.size w w' := by
  have H57 := Lib.hid (netOf57 A cap es w hE hn hs)
  clear hE hn hs
  go_enter Try.func31, Try.ntmps31
  go_wp2_with (go_at_call 57; refine H57.out.mono ?_; rintro ee w1 ⟨rfl, hN1, hB1⟩; obtain ⟨v0, xs, bx, n0, f0, hp, hmx, hox, hX, hxl, _⟩ := hN1; obtain ⟨Ax, cx, rfl, hle⟩ := q_slice (q_of_own hox); have HROW := Lib.hid (row_q (q_of_own hox)); have HX := Lib.hid hX; have HXL := Lib.hid hxl; have HLE := Lib.hid hle; have HB1 := Lib.hid hB1; have k0 := cell_of_block (j := 0) hp rfl; clear hp hmx hox hX hxl hB1 hle)
  go_ret
  exact ⟨Ax, cx, xs, rfl, HLE.out, HXL.out, HROW.out, HX.out, HB1.out⟩

set_option maxRecDepth 100000 in
set_option maxHeartbeats 4000000 in
theorem reach29 (A : Option Addr) (cap : Nat) (es : List (S × Int × S)) (B : Option Addr) (c2 : Nat) (src : List S) (w : World) (hE : EdgeRow w A es) (hn : es.length ≤ 100000) (hs : ∀ e ∈ es, e.1.length ≤ 100000 ∧ e.2.2.length ≤ 100000)
    (hA : StrRow w B src) (hm : src.length ≤ 100000) (hx : ∀ x ∈ src, x.length ≤ 100000) :
    Calls Try.prog 29 #[.slice A es.length cap, .slice B src.length c2] w fun e w' => ∃ A' c' out, e = .returned (.slice A' out.length c') ∧ out.length ≤ c' ∧ out.length ≤ 300000 ∧ StrRow w' A' out ∧ IsReach (ends es) src out ∧ Below w.heap.size w w' := by
  have H57 := Lib.hid (netOf57 A cap es w hE hn hs)
  have HA := Lib.hid hA
  have H59 := Lib.hid (fun p w' hN hA' => far59 p (ends es) B c2 src w' hN hA' hm (by unfold ends; rw [List.length_map]; exact hn) hx (ends_sizes hs))
  clear hE hn hs hA hm hx
  go_enter Try.func29, Try.ntmps29
  go_wp2_with (first
    | (go_at_call 57; refine H57.out.mono ?_; rintro ee w1 ⟨rfl, hN1, hB1⟩; have HN1 := Lib.hid hN1; have HB1 := Lib.hid hB1; clear hN1 hB1)
    | (go_at_call 59; refine (H59.out _ w1 HN1.out (HA.out.below HB1.out (Nat.le_refl _))).mono ?_; rintro ee w2 ⟨rfl, ⟨out, N, hM, hN, _, hD⟩, hB2⟩; have HM := Lib.hid hM; have HN := Lib.hid hN; have HD := Lib.hid hD; have HB2 := Lib.hid hB2; clear hM hN hD hB2)
    | (go_at_call 62; refine (keys62 _ _).mono ?_; rintro e w5 ⟨rfl, rfl⟩)
    | (go_at_call 61; refine (sorted61 HM.out (by have := HN.out; omega)).mono ?_; rintro e w6 ⟨v, xs, rfl, hss, hmem, hxl, hrow, hb6⟩; obtain ⟨Ax, cx, rfl, hle⟩ := q_slice (q_of_own hrow); have HROW := Lib.hid (row_q (q_of_own hrow)); have HSS := Lib.hid hss; have HMEM := Lib.hid hmem; have HB6 := Lib.hid hb6; have HLE := Lib.hid hle; have HXL := Lib.hid hxl; clear hrow hss hmem hb6 hle hxl))
  go_ret
  refine ⟨Ax, cx, xs, rfl, HLE.out, by have := HXL.out; have := HN.out; omega, HROW.out, ⟨HSS.out, fun x => ?_⟩, ?_⟩
  · rw [HMEM.out x]
    constructor
    · intro h
      obtain ⟨d, hd⟩ := Option.isSome_iff_exists.1 h
      unfold dmap at hd
      obtain ⟨d', hd', _⟩ := Option.map_eq_some_iff.1 hd
      exact dist_conn ((HD.out x d').1 hd')
    · rintro ⟨s, hs, hc⟩
      obtain ⟨d, hd⟩ := conn_dist hs hc
      unfold dmap
      rw [(HD.out x d).2 hd]
      rfl
  · have z1 := HB1.out.size
    have z2 := HB2.out.size
    exact HB1.out.trans ((HB2.out.mono z1).trans (((Below.refl _ w2).alloc (Nat.le_trans z1 z2) _).trans (HB6.out.mono (by omega))))
end Go.Proofs.Ytljfknneijmfoaa
