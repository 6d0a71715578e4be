import Derived.Test.YtljfknneijmfoaaDotP
import Derived.Test.YtljfknneijmfoaaQs
namespace Go.Proofs.Ytljfknneijmfoaa
open Go.RowKit Go.Maps Go.WideMaps Go.Lib
open Go.Proofs.YtljfknneijmfoaaW.PrintWords (q_of_own q_slice q_cells add_at)

theorem next_len {E : Es} {s : S} {ys : List S} (h : IsNext E s ys) : ys.length ≤ E.length := by
  have := nodup_le ys (E.map (·.2)) h.1.nodup fun x hx => List.mem_map.2 ⟨_, (h.2 x).1 hx, rfl⟩
  rwa [List.length_map] at this

set_option maxRecDepth 100000 in
set_option maxHeartbeats 4000000 in
/-- graph.Dot: the edges as a text. -/
theorem dot48 (A : Option Addr) (cap : Nat) (es : List (S × Int × S)) (w : World) (hE : EdgeRow w A es) (hn : es.length ≤ 1000) (hs : ∀ e ∈ es, e.1.length ≤ 1000 ∧ e.2.2.length ≤ 1000) :
    Calls Try.prog 48 #[.slice A es.length cap] w fun e w' => ∃ x, e = .returned (.string (U x)) ∧ IsDot (ends es) x ∧ x.length ≤ 10000000000000 ∧ Below w.heap.size w w' := by
  obtain ⟨w0, hw0⟩ : ∃ w0, w0 = w.alloc (.cells #[.pointer none, .slice none 0 0] 108) := ⟨_, rfl⟩
  have h0 : Lib.IsBuilderF 108 5 w.heap.size w.heap.size [] w0 := by rw [hw0]; exact Lib.IsBuilderF.of (Lib.fresh_isBuilder 108 5 w)
  have b0 : Below w.heap.size w w0 := by rw [hw0]; exact (Below.refl _ w).alloc (Nat.le_refl _) _
  have hEl : (ends es).length ≤ 1000 := by unfold ends; rw [List.length_map]; exact hn
  have hEs : ∀ e ∈ ends es, e.1.length ≤ 1000 ∧ e.2.length ≤ 1000 := by
    intro e he
    unfold ends at he
    obtain ⟨x, hx, rfl⟩ := List.mem_map.1 he
    exact hs x hx
  have H57 := Lib.hid (netOf57 A cap es w0 (hE.below b0 (Nat.le_refl _)) (by omega) (fun e he => by have := hs e he; omega))
  obtain ⟨E, hEe⟩ : ∃ E, E = ends es := ⟨_, rfl⟩
  rw [← hEe] at H57 hEl hEs ⊢
  have HES := Lib.hid hEs
  clear hE hn hs hEs hEe
  go_enter Try.func48, Try.ntmps48
  go_upto_region 2 with (fail)
  rw [← hw0]
  clear hw0
  go_upto_region 3 with (go_at_call 57; refine H57.out.mono ?_; rintro ee w1 ⟨rfl, hN1, hB1⟩; have HN1 := Lib.hid hN1; have HB1 := Lib.hid hB1; clear hN1 hB1)
  obtain ⟨v0, xs, bx, n0, f0, hp, hmx, hox, hX, hxl, hnx⟩ := HN1.out
  obtain ⟨Ax, cx, rfl⟩ := own_form hox
  obtain ⟨nx, hnx⟩ : ∃ nx : S → List S, ∀ s, IsNext E s (nx s) ∧ w1.ownsRow 0 9 1 ((f0 (B (U s))).getD (.slice none 0 0)) (nx s).length ((nx s).map encStr) := ⟨fun s => Classical.choose (hnx s), fun s => ⟨(Classical.choose_spec (hnx s)).1, (Classical.choose_spec (hnx s)).2.2⟩⟩
  have hXS : ∀ x ∈ xs, x.length ≤ 1000 := fun x hx => by
    obtain ⟨y, hy | hy⟩ := (hX.2 x).1 hx
    · exact (HES.out _ hy).1
    · exact (HES.out _ hy).2
  have h1 : Lib.IsBuilderF 108 5 w.heap.size w.heap.size (Lib.byteCells []) w1 := builder_keep h0 (fun j hj => HB1.out.block j hj)
  have hbb := builder_block h1
  have z1 := HB1.out.size
  have z0 := b0.size
  have HH1 := Lib.hid h1
  have HBB := Lib.hid hbb
  have HP := Lib.hid hp
  have HMX := Lib.hid hmx
  have HOX := Lib.hid hox
  have HX := Lib.hid hX
  have HXS := Lib.hid hXS
  have HNX := Lib.hid hnx
  have hpl := (Array.getElem?_eq_some_iff.1 hp).1
  clear hp hmx hox hX hnx h1 hbb hXS H57 h0
  go_upto_region 4 with (go_at_call 78; refine (Try.Builder_WriteString w.heap.size w.heap.size _ _ w1 HH1.out (by simp [Lib.byteCells]; try decide) (by omega)).mono ?_; rintro ee w2 ⟨rfl, hh2, hB2, hO2⟩; have HO2 := Lib.hid hO2; have HH2 := Lib.hid hh2; have HB2 := Lib.hid hB2; clear hh2 hB2 hO2)
  have HBW1 := Lib.hid (b0.trans (HB1.out.mono z0))
  have k0 := cell_of_block (j := 0) (HO2.out _ _ HP.out (fun e => by have := Option.some.inj e; omega) (fun c fz e => by injection e with _ e _; cases e)) rfl
  have HH2' : Hid (Lib.IsBuilderF 108 5 w.heap.size w.heap.size (Lib.byteCells headB) w2) := Lib.hid (Or.inr (by have h := HH2.out; rw [builder_bytes] at h; exact h))
  clear HH2
  go_wp2
  clear k0
  go_loopw [17] (fun i wr => ∃ (k : Nat) (acc : S), k ≤ xs.length ∧ i = .int .i64 k ∧ acc = headB ++ (xs.take k).flatMap (fun s => (nx s).flatMap (lineB s)) ∧ acc.length ≤ room k 0 ∧ Lib.IsBuilderF 108 5 w.heap.size w.heap.size (Lib.byteCells acc) wr ∧ Lib.OthersKept 5 (some w.heap.size) w1 wr ∧ Below w.heap.size w wr) (fun i _ => xs.length - (intOf i).toNat)
  case atStart =>
    exact ⟨0, headB, Nat.zero_le _, rfl, by simp, by decide, HH2'.out, HO2.out, HBW1.out.trans HB2.out⟩
  case round =>
    obtain ⟨k, acc, hk, rfl, hacc, hal, hbd, hO, hB⟩ := hrel
    have HACC := Lib.hid hacc
    have HBD := Lib.hid hbd
    have HO := Lib.hid hO
    have HB := Lib.hid hB
    have HAL := Lib.hid hal
    clear hacc hbd hO hB hal
    have hpw := HO.out _ _ HP.out (fun e => by have := Option.some.inj e; omega) (fun c fz e => by injection e with _ e _; cases e)
    by_cases hlt : k < xs.length
    · obtain ⟨s, hsx⟩ : ∃ s, xs[k]? = some s := ⟨_, List.getElem?_eq_getElem hlt⟩
      obtain ⟨ax, rfl, hcs⟩ := row_q (q_of_own (own_others HO.out HBB.out HOX.out)) k s hsx
      have hsl := HXS.out s (List.mem_of_getElem? hsx)
      have hsm : (U s).size ≤ maxLen := by rw [size_U]; unfold maxLen; omega
      obtain ⟨hnxs, hon⟩ := HNX.out s
      obtain ⟨ys, hys⟩ : ∃ ys, ys = nx s := ⟨_, rfl⟩
      rw [← hys] at hnxs hon
      obtain ⟨A2, c2, hv2⟩ := own_form hon
      rw [hv2] at hon
      have hyl := Nat.le_trans (next_len hnxs) hEl
      have HON := Lib.hid hon
      have HV2 : Hid ((f0 (B (U s))).getD (.slice none 0 0) = .slice A2 ys.length c2) := Lib.hid hv2
      have HMW := Lib.hid (hmap_others HO.out HBB.out HMX.out)
      have HSM := Lib.hid hsm
      have HSX := Lib.hid hsx
      have HYS := Lib.hid hys
      have HNXS := Lib.hid hnxs
      have hkb : k ≤ 1000000 := by omega
      have k1 := cell_of_block (j := 1) hpw rfl
      clear hnxs hon hv2 hsm hsx hys hpw
      obtain ⟨wr0, rfl⟩ : ∃ wr0 : World, wr0 = wr := ⟨_, rfl⟩
      go_wp2_with (at_lookup; refine wpList_lookup_h _ rfl _ _ 88 rfl 22 Try.underlying88 (.slice none 0 0) (zero22 _) bx n0 f0 rfl HMW.out (U s) rfl HSM.out (.slice A2 ys.length c2) HV2.out ?_)
      clear k1
      go_loopw [28] (fun i wi => ∃ (j : Nat) (acc2 : S), j ≤ ys.length ∧ i = .int .i64 j ∧ acc2 = acc ++ (ys.take j).flatMap (lineB s) ∧ acc2.length ≤ room k j ∧ Lib.IsBuilderF 108 5 w.heap.size w.heap.size (Lib.byteCells acc2) wi ∧ Lib.OthersKept 5 (some w.heap.size) w1 wi ∧ Below w.heap.size w wi) (fun i _ => ys.length - (intOf i).toNat)
      case atStart => exact ⟨0, acc, Nat.zero_le _, rfl, by simp, HAL.out, HBD.out, HO.out, HB.out⟩
      case round =>
        obtain ⟨j, acc2, hj, rfl, hacc2, hal2, hbd2, hO2', hB2'⟩ := hrel
        have HACC2 := Lib.hid hacc2
        have HBD2 := Lib.hid hbd2
        have HOI := Lib.hid hO2'
        have HBI := Lib.hid hB2'
        have HAL2 := Lib.hid hal2
        have hjb : j ≤ 1000000 := by omega
        have hroom := room_le hal2 (by omega) (by omega)
        clear hacc2 hbd2 hO2' hB2' hal2
        by_cases hjt : j < ys.length
        · obtain ⟨t, htx⟩ : ∃ t, ys[j]? = some t := ⟨_, List.getElem?_eq_getElem hjt⟩
          obtain ⟨ay, rfl, hct⟩ := row_q (q_of_own (own_others HOI.out HBB.out HON.out)) j t htx
          have htl : t.length ≤ 1000 := (HES.out _ ((HNXS.out.2 t).1 (List.mem_of_getElem? htx))).2
          have HTX := Lib.hid htx
          have hs1 : (U s).size ≤ 1000 := by rw [size_U]; exact hsl
          have ht1 : (U t).size ≤ 1000 := by rw [size_U]; exact htl
          have hlb : (((((⟨#[34]⟩ : ByteArray) ++ U s) ++ (⟨#[34, 32, 45, 62, 32, 34]⟩ : ByteArray)) ++ U t) ++ (⟨#[34, 59, 10]⟩ : ByteArray)).size = s.length + t.length + 10 := by
            rw [← size_B, line_bytes, lineB_len]
          have HLB := Lib.hid hlb
          clear htx hlb
          go_wp2_with (go_at_call 78; refine (Try.Builder_WriteString w.heap.size w.heap.size _ _ wr HBD2.out (by rw [HLB.out]; simp [Lib.byteCells]; omega) (by have := HBI.out.size; omega)).mono ?_; rintro ee w3 ⟨rfl, hh3, hB3, hO3⟩; have HH3 : Hid (Lib.IsBuilderF 108 5 w.heap.size w.heap.size (Lib.byteCells (acc2 ++ lineB s t)) w3) := Lib.hid (Or.inr (by have h := hh3; rw [builder_bytes] at h; rw [← line_bytes s t]; exact h)); have HB3 := Lib.hid hB3; have HO3 := Lib.hid hO3; clear hh3 hB3 hO3)
          go_roundw
          case measure => simp [intOf]; omega
          case rel =>
            refine ⟨j + 1, acc2 ++ lineB s t, hjt, by go_num, ?_, ?_, HH3.out, HOI.out.trans HO3.out, HBI.out.trans HB3.out⟩
            · rw [HACC2.out, List.take_add_one, HTX.out]
              simp
            · rw [List.length_append]
              exact room_next HAL2.out (by rw [lineB_len]; omega)
        · have hje : j = ys.length := by omega
          subst hje
          go_wp2
          go_roundw
          case measure => simp [intOf]; omega
          case rel =>
            refine ⟨k + 1, acc2, hlt, by go_num, ?_, room_row HAL2.out (by omega), HBD2.out, HOI.out, HBI.out⟩
            rw [HACC2.out, HACC.out, List.take_length, List.take_add_one, HSX.out, HYS.out]
            simp
    · have hke : k = xs.length := by omega
      subst hke
      have hroom := room_le HAL.out (by omega) (Nat.zero_le _)
      clear hpw
      go_wp2_with (first
        | (go_at_call 78; refine (Try.Builder_WriteString w.heap.size w.heap.size _ _ wr HBD.out (by show (Lib.byteCells acc).length + 2 ≤ _; simp [Lib.byteCells]; omega) (by have := HB.out.size; omega)).mono ?_; rintro ee w3 ⟨rfl, hh3, hB3, _⟩; have HH3 : Hid (Lib.IsBuilderF 108 5 w.heap.size w.heap.size (Lib.byteCells (acc ++ footB)) w3) := Lib.hid (Or.inr (by have h := hh3; rw [builder_bytes] at h; exact h)); have HB3 := Lib.hid hB3; have zz3 := hB3.size; clear hh3 hB3)
        | (go_at_call 79; refine (Try.Builder_String_any w.heap.size w.heap.size _ _ HH3.out (by have := HB.out.size; omega)).mono ?_; rintro ee w4 ⟨rfl, _, hB4, _⟩; have HB4 := Lib.hid hB4; clear hB4))
      go_ret
      have hacc := HACC.out
      rw [List.take_length] at hacc
      refine ⟨acc ++ footB, rfl, ?_, by simp [footB]; omega, HB.out.trans (HB3.out.trans HB4.out)⟩
      rw [hacc]
      exact dot_by_nodes HX.out fun s => (HNX.out s).1
end Go.Proofs.Ytljfknneijmfoaa
