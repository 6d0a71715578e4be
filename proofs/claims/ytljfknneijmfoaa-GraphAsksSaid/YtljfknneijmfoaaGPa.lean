import Derived.Test.YtljfknneijmfoaaGX
import Derived.Test.YtljfknneijmfoaaFar
import Derived.Test.YtljfknneijmfoaaPlain
import Derived.ScopeJumps
import Derived.WalkMore
import Derived.Deep.Cut
namespace Go.Proofs.Ytljfknneijmfoaa.PQueryCalls
open Go.RowKit Go.Proofs.YtljfknneijmfoaaW.PrintWords Go.Proofs.YtljfknneijmfoaaW.PrintLast Go.Proofs.YtljfknneijmfoaaW.PrintMore
set_option linter.unusedVariables false
set_option linter.unusedSimpArgs false

/-! ### graph_turned: function 58 -/
def graph_turned.l0 : Nat → List (S50) → List (S50) → Int → Int → Option ((List (S50)))
  | 0, _, _, _, _ => none
  | k + 1, x2, x5, x6, x7 => if x7 < x6 then (if 0 ≤ x7 then (if x7 < (x5.length : Int) then (if x2.length < 3518437208883 then (graph_turned.l0 k (x2 ++ [(⟨(rd_T50 x5 x7).f2, 0, (rd_T50 x5 x7).f0⟩ : S50)]) x5 x6 (wrap64 (x7 + 1))) else (none)) else (none)) else (none)) else (some x2)
def graph_turned.f (k : Nat) (l0 : List (S50)) : Option ((List (S50))) := graph_turned.l0 k ([] : List (S50)) l0 (l0.length : Int) 0
theorem graph_turned.mono_l : ∀ k, (∀ y0 y1 y2 y3, LeO (graph_turned.l0 k y0 y1 y2 y3) (graph_turned.l0 (k + 1) y0 y1 y2 y3))
  | 0 => fun _ _ _ _ r h => by simp [graph_turned.l0] at h
  | k + 1 => by
    have ih0 := graph_turned.mono_l k
    · intro y0 y1 y2 y3
      unfold graph_turned.l0
      repeat' first
      | (with_reducible exact ih0 _ _ _ _)
      | (with_reducible exact LeO.refl _)
      | (with_reducible exact LeO.none _)
      | (with_reducible refine LeO.ite ?_ ?_)
      | (with_reducible refine LeO.bind ?_ (fun _ => ?_))
      | exact ih0 _ _ _ _
      | exact LeO.none _
      | refine LeO.ite ?_ ?_
      | refine LeO.bind ?_ (fun _ => ?_)
theorem graph_turned.mono : ∀ a0 k, LeO (graph_turned.f k a0) (graph_turned.f (k + 1) a0) := by
  intro a0 k
  have ih0 := graph_turned.mono_l k
  unfold graph_turned.f
  repeat' first
      | (with_reducible exact ih0 _ _ _ _)
      | (with_reducible exact LeO.refl _)
      | (with_reducible exact LeO.none _)
      | (with_reducible refine LeO.ite ?_ ?_)
      | (with_reducible refine LeO.bind ?_ (fun _ => ?_))
      | exact ih0 _ _ _ _
      | exact LeO.none _
      | refine LeO.ite ?_ ?_
      | refine LeO.bind ?_ (fun _ => ?_)
set_option maxHeartbeats 8000000 in
set_option maxRecDepth 100000 in
theorem graph_turned.calls (k : Nat) (A0 : Option Addr) (c0 : Nat) (l0 : List (S50)) (r : List (S50)) (w : World) (hr0 : Kd.C k50 w A0 l0.length l0) (hc0 : l0.length ≤ c0) (h : graph_turned.f k l0 = some r) :
    Calls Try.prog 58 #[.slice A0 l0.length c0] w fun e w' => ∃ v0_ : Value, e = .returned (v0_) ∧ Kd.R k50 50 w' w.heap.size (fun _ => True) v0_ r ∧ Below w.heap.size w w' := by
  have hu50 := Try.underlying50
  have HR0 := Aside0.mk hr0
  have HC0 := Aside0.mk hc0
  clear hr0 hc0
  have HB := Aside0.mk (Below.refl w.heap.size w)
  have H : (graph_turned.l0 k ([] : List (S50)) l0 (l0.length : Int) 0) = some r := h
  clear h
  have H' := Aside0.mk H
  clear H
  go_enter Try.func58, Try.ntmps58
  go_wp2
  go_loopg [2, 7] k (fun kq v2 v7 w' => ∃ (x2_1 : List (S50)) (x7_1 : Int), v7 = .int .i64 x7_1 ∧ Aside0 (graph_turned.l0 kq x2_1 l0 (l0.length : Int) x7_1 = some r) ∧ Aside0 (kq ≤ k) ∧ Aside0 (Kd.R k50 50 w' w.heap.size (fun _ => True) v2 x2_1) ∧ Aside0 (Below w.heap.size w w'))
  case atStart => exact ⟨(([] : List (S50))), (0), (by first | rfl | (simp; done) | (simp [*]; done)), H', ⟨Nat.le_refl _⟩, ⟨by first | exact Kd.R_nil _ _ _ _ _ | exact Kd.N_nil _ _ _ _ _ | exact Kd.V_nil _ _ _ _ _ | exact Kd.Q_nil _ _ _ _ _ | exact Kd.S_nil _ _ _ _ _⟩, ⟨by repeat (first | (with_reducible first | exact HB.out | apply below_alloc | apply pw_below_drewN | apply below_drew1) | exact HB.out)⟩⟩
  case round =>
    clear H'
    obtain ⟨x2_1, x7_1, rfl, HA, HK1, HO_2, HB⟩ := hrel
    cases gk with
    | zero => exact absurd HA.out (by simp [graph_turned.l0])
    | succ k1 =>
      have H := HA.out
      clear HA
      simp only [graph_turned.l0] at H
      by_cases c2 : x7_1 < (l0.length : Int)
      · rw [if_pos c2] at H
        have c2b0 : decide (x7_1 < (l0.length : Int)) = true := decide_eq_true c2
        clear c2
        by_cases c3 : 0 ≤ x7_1
        · rw [if_pos c3] at H
          have c3b0 : decide (0 ≤ x7_1) = true := decide_eq_true c3
          clear c3
          by_cases c4 : x7_1 < (l0.length : Int)
          · rw [if_pos c4] at H
            have c4b0 : decide (x7_1 < (l0.length : Int)) = true := decide_eq_true c4
            clear c4
            by_cases c5 : x2_1.length < 3518437208883
            · rw [if_pos c5] at H
              have LMc5 := Aside0.mk c5
              clear c5
              obtain ⟨y247, hy247⟩ : ∃ y_ : List (S50), y_ = (x2_1 ++ [(⟨(rd_T50 l0 x7_1).f2, 0, (rd_T50 l0 x7_1).f0⟩ : S50)]) := ⟨_, rfl⟩
              replace H : (graph_turned.l0 k1 y247 l0 (l0.length : Int) (wrap64 (x7_1 + 1))) = some r := by first | (rw [hy247]; with_reducible exact H) | (have H2_ := (Option.bind_some _ _).symm.trans H; rw [hy247]; with_reducible exact H2_) | (have H2_ := (Option.bind_some _ _).symm.trans H; with_reducible exact H2_) | with_reducible exact H | (rw [hy247]; exact H) | exact H
              have Ny247 := Aside0.mk hy247
              clear hy247
              have H' := Aside0.mk H
              clear H
              have p245 : 0 ≤ (x7_1 : Int) := of_decide_eq_true (by first | (with_reducible assumption) | assumption)
              have q245 : x7_1 < (l0.length : Int) := of_decide_eq_true (by first | (with_reducible assumption) | assumption)
              obtain ⟨ad245, e245, hx245_0, hx245_1, hx245_2⟩ := at_T50 HR0.out x7_1 p245 q245
              cases e245
              replace hx245_0 := (HB.out.cell (World.block_lt_of_cell? w _ hx245_0)).trans hx245_0
              replace hx245_1 := (HB.out.cell (World.block_lt_of_cell? w _ hx245_1)).trans hx245_1
              replace hx245_2 := (HB.out.cell (World.block_lt_of_cell? w _ hx245_2)).trans hx245_2
              replace p245 := eq_true p245
              replace q245 := eq_true q245
              go_wp2_with (first | ((with_reducible refine gate_dst (N := 4) rfl ?_); refine box_event ?hg (N := 4) ?hd (cs := #[.string (⟨#[]⟩ : ByteArray), .int .i64 0, .string (⟨#[]⟩ : ByteArray)]) (t := 50) ?hr ?_; (case hd => rfl); (case hg => rfl); (case hr => first | (go_simp; done) | (go_simp; rfl)); intro gb246 hg w6 hbox hb; have n0_ := Aside0.mk (Kd.R_below (Kd.R_elderB (by (with_reducible repeat (first | apply Kd.R_alloc | apply Kd.R_drewN | apply Kd.R_drew)); exact HO_2.out) gb246 (Nat.le_of_eq hg.symm)) hb); have n1_ := Aside0.mk (below_step (by repeat (first | (with_reducible first | exact HB.out | apply below_alloc | apply pw_below_drewN | apply below_drew1) | exact HB.out)) hb); have n2_ := Aside0.mk (hbox); have n3_ := Aside0.mk ((by rw [hg]; exact (below_size (by repeat (first | (with_reducible first | exact HB.out | apply below_alloc | apply pw_below_drewN | apply below_drew1) | exact HB.out))) : w.heap.size ≤ gb246)); have n4_ := Aside0.mk ((by rw [hg]; exact (below_size (by repeat (first | (with_reducible first | exact HB.out | apply below_alloc | apply pw_below_drewN | apply below_drew1) | exact HB.out))) : w.heap.size ≤ gb246)); clear HO_2; clear HB; have HO_2 := n0_; have HB := n1_; have BK246 := n2_; have GW246 := n3_; have GE246 := n4_; clear n0_ n1_ n2_ n3_ n4_; clear hb hbox hg; have hcz7_0 : w6.cell? ⟨gb246, 0, none⟩ = some (.string (⟨#[]⟩ : ByteArray)) := (blk_cell BK246.out 0).trans rfl; have hcz7_1 : w6.cell? ⟨gb246, 1, none⟩ = some (.int .i64 0) := (blk_cell BK246.out 1).trans rfl; have hcz7_2 : w6.cell? ⟨gb246, 2, none⟩ = some (.string (⟨#[]⟩ : ByteArray)) := (blk_cell BK246.out 2).trans rfl; have hfz7_0 := blk_frozen BK246.out 0; have hfz7_1 := blk_frozen BK246.out 1; have hfz7_2 := blk_frozen BK246.out 2) | ((with_reducible refine gate_builtin (b := .append) (xs := #[.tmp 11, .tmp 17]) rfl ?_); at_builtin; refine Kd.R_append k50 (w0 := w) w.heap.size rfl (.tmp 11) (.tmp 17) 24 50 (.agg #[(.string ⟨#[]⟩), (.int .i64 0), (.string ⟨#[]⟩)]) 40 rfl Try.underlying24 info50 rfl (by decide) (by omega) u2 x2_1 (⟨(rd_T50 l0 x7_1).f2, 0, (rd_T50 l0 x7_1).f0⟩ : S50) [.string ((rd_T50 l0 x7_1).f2), .int .i64 0, .string ((rd_T50 l0 x7_1).f0)] (fun k_ => k_ ≠ gb246) (fun _ => False) rfl (by first | (go_simp; done) | (go_simp; rfl)) ?aP (fun _ hk => hk.elim) ?aF ?aO ?aB ?aS ?aL ?_; (case aP => exact k50_mkM _ _ _ (⟨(rd_T50 l0 x7_1).f2, 0, (rd_T50 l0 x7_1).f0⟩ : S50)); (case aB => exact (by repeat (first | (with_reducible first | exact HB.out | apply below_alloc | apply pw_below_drewN | apply below_drew1 | refine below_set ?_ GE246.out) | exact HB.out))); (case aF => exact (fun k_ hk => Kd.freshB (g := gb246) (o := .cells #[.string ((rd_T50 l0 x7_1).f0), .int .i64 ((rd_T50 l0 x7_1).f1), .string ((rd_T50 l0 x7_1).f2)] 50 (0, 0)) (by (with_reducible repeat (first | refine blk_drewN ?_ _ | refine blk_drew ?_ | refine blk_alloc ?_ _)); refine blk_put (cs := #[.string ((rd_T50 l0 x7_1).f0), .int .i64 ((rd_T50 l0 x7_1).f1), .string (⟨#[]⟩ : ByteArray)]) ?_ 2 _ rfl; (with_reducible repeat (first | refine blk_drewN ?_ _ | refine blk_drew ?_ | refine blk_alloc ?_ _)); refine blk_put (cs := #[.string ((rd_T50 l0 x7_1).f0), .int .i64 0, .string (⟨#[]⟩ : ByteArray)]) ?_ 1 _ rfl; (with_reducible repeat (first | refine blk_drewN ?_ _ | refine blk_drew ?_ | refine blk_alloc ?_ _)); refine blk_put (cs := #[.string (⟨#[]⟩ : ByteArray), .int .i64 0, .string (⟨#[]⟩ : ByteArray)]) ?_ 0 _ rfl; (with_reducible repeat (first | refine blk_drewN ?_ _ | refine blk_drew ?_ | refine blk_alloc ?_ _)); exact BK246.out) k_ hk)); (case aO => exact (by (with_reducible repeat (first | apply Kd.R_alloc | apply Kd.R_drewN | apply Kd.R_drew)); exact Kd.R_mono (Kd.R_far (p := ⟨gb246, 2, none⟩) (Kd.R_far (p := ⟨gb246, 1, none⟩) (Kd.R_far (p := ⟨gb246, 0, none⟩) (Kd.R_mono HO_2.out (fun k_ hk => (⟨hk, hk.2⟩ : _ ∧ k_ ≠ gb246))) (fun _ hk => hk.2) (.string ((rd_T50 l0 x7_1).f0))) (fun _ hk => hk.2) (.int .i64 ((rd_T50 l0 x7_1).f1))) (fun _ hk => hk.2) (.string ((rd_T50 l0 x7_1).f2))) (fun _ hk => hk.1.2))); (case aS => exact (below_size (by repeat (first | (with_reducible first | exact HB.out | apply below_alloc | apply pw_below_drewN | apply below_drew1 | refine below_set ?_ GE246.out) | exact HB.out)))); (case aL => have := LMc5.out; omega); intro v248 w8 ho hb hg hat; rw [← Ny247.out] at ho; have n0_ := Aside0.mk (blk_grown (g := gb246) (o := .cells #[.string ((rd_T50 l0 x7_1).f0), .int .i64 ((rd_T50 l0 x7_1).f1), .string ((rd_T50 l0 x7_1).f2)] 50 (0, 0)) (by (with_reducible repeat (first | refine blk_drewN ?_ _ | refine blk_drew ?_ | refine blk_alloc ?_ _)); refine blk_put (cs := #[.string ((rd_T50 l0 x7_1).f0), .int .i64 ((rd_T50 l0 x7_1).f1), .string (⟨#[]⟩ : ByteArray)]) ?_ 2 _ rfl; (with_reducible repeat (first | refine blk_drewN ?_ _ | refine blk_drew ?_ | refine blk_alloc ?_ _)); refine blk_put (cs := #[.string ((rd_T50 l0 x7_1).f0), .int .i64 0, .string (⟨#[]⟩ : ByteArray)]) ?_ 1 _ rfl; (with_reducible repeat (first | refine blk_drewN ?_ _ | refine blk_drew ?_ | refine blk_alloc ?_ _)); refine blk_put (cs := #[.string (⟨#[]⟩ : ByteArray), .int .i64 0, .string (⟨#[]⟩ : ByteArray)]) ?_ 0 _ rfl; (with_reducible repeat (first | refine blk_drewN ?_ _ | refine blk_drew ?_ | refine blk_alloc ?_ _)); exact BK246.out) hg (Kd.R_away HO_2.out (fun _ hk => hk.2))); have n1_ := Aside0.mk (hb); have n2_ := Aside0.mk (ho); clear BK246; clear HB; clear HO_2; have BK246 := n0_; have HB := n1_; have HO249 := n2_; clear n0_ n1_ n2_; clear ho hb hg hat))
              go_roundg k1
              case measure => have := HK1.out; omega
              case rel => exact ⟨(y247), (wrap64 (x7_1 + 1)), (by first | rfl | (simp; done) | (simp [*]; done)), H', ⟨by have := HK1.out; omega⟩, ⟨by (with_reducible repeat (first | apply Kd.R_alloc | apply Kd.R_drewN | apply Kd.R_drew)); exact Kd.R_mono HO249.out (fun _ hk => trivial)⟩, ⟨by repeat (first | (with_reducible first | exact HB.out | apply below_alloc | apply pw_below_drewN | apply below_drew1 | refine below_set ?_ GE246.out) | exact HB.out)⟩⟩
            · rw [if_neg c5] at H
              exact absurd H (by simp)
          · rw [if_neg c4] at H
            exact absurd H (by simp)
        · rw [if_neg c3] at H
          exact absurd H (by simp)
      · rw [if_neg c2] at H
        have c2b0 : decide (x7_1 < (l0.length : Int)) = false := decide_eq_false c2
        clear c2
        obtain rfl := Option.some.inj H
        go_wp2
        go_ret
        exact ⟨_, by first | rfl | (simp [errW_none, errW_some] <;> rfl) | (simp [*, errW_none, errW_some] <;> rfl), by (with_reducible repeat (first | apply Kd.R_alloc | apply Kd.R_drewN | apply Kd.R_drew)); exact HO_2.out, by repeat (first | (with_reducible first | exact HB.out | apply below_alloc | apply pw_below_drewN | apply below_drew1) | exact HB.out)⟩
end Go.Proofs.Ytljfknneijmfoaa.PQueryCalls

namespace Go.Proofs.Ytljfknneijmfoaa
open Go.RowKit Go.Maps Go.WideMaps
open Go.Proofs.YtljfknneijmfoaaW.PrintWords (add_field)
open PQueryCalls (S50 z50 k50 at_T50 rd_T50 k50_mk)
open Go.Proofs.YtljfknneijmfoaaW.PrintWords

/-- An edge, as the printed texts have it. -/
def to50 (e : S × Int × S) : S50 := ⟨U e.1, e.2.1, U e.2.2⟩
def of50 (x : S50) : S × Int × S := (B x.f0, x.f1, B x.f2)
theorem of_to50 (e : S × Int × S) : of50 (to50 e) = e := rfl
theorem to_of50 (x : S50) : to50 (of50 x) = x := by cases x; simp [to50, of50, U_B]

theorem edges_of_C {w : World} {A : Option Addr} {l : List S50} (h : Kd.C k50 w A l.length l) : EdgeRow w A (l.map of50) := by
  intro k e he
  have hk : k < l.length := by simpa using (List.getElem?_eq_some_iff.1 he).1
  obtain ⟨ad, rfl, h0, h1, h2⟩ := at_T50 h (k : Int) (by omega) (by omega)
  have hr : rd_T50 l k = l[k] := by simp [rd_T50, List.getD_eq_getElem?_getD, List.getElem?_eq_getElem hk]
  have he' : e = of50 l[k] := by rw [List.getElem?_map, List.getElem?_eq_getElem hk] at he; exact (Option.some.inj he).symm
  rw [hr] at h0 h1 h2
  subst he'
  refine ⟨ad, rfl, ?_, ?_, ?_⟩
  · simpa [of50, U_B] using h0
  · simpa [of50] using h1
  · simpa [of50, U_B] using h2

theorem C_of_edges {w : World} {A : Option Addr} {es : List (S × Int × S)} (h : EdgeRow w A es) (hn : es.length ≤ 1000000) : Kd.C k50 w A es.length (es.map to50) := by
  refine ⟨by simp, by omega, fun h0 => ?_⟩
  obtain ⟨ad, rfl, _⟩ := h 0 _ (List.getElem?_eq_getElem h0)
  refine ⟨ad, rfl, fun j p hp => ?_⟩
  rw [List.getElem?_map] at hp
  obtain ⟨e, he, rfl⟩ := Option.map_eq_some_iff.1 hp
  obtain ⟨ad', ea, c0, c1, c2⟩ := h j e he
  cases ea
  refine ⟨_, rfl, k50_mk w _, fun i u hu => ?_⟩
  show w.cell? (ad.add (j * 3 + i)) = some u
  match i, hu with
  | 0, hu => cases hu; exact c0
  | 1, hu => cases hu; rw [add_field _ _ 1 (by omega)]; exact c1
  | 2, hu => cases hu; rw [add_field _ _ 2 (by omega)]; exact c2

/-- Turned round. -/
def swapE (e : S × Int × S) : S × Int × S := (e.2.2, 0, e.1)

theorem ends_swap (es : List (S × Int × S)) : ends (es.map swapE) = rev (ends es) := by
  simp [ends, rev, swapE, Function.comp_def]

theorem turned_l0 (es : List (S × Int × S)) (hn : es.length ≤ 1000000) : ∀ (m k i : Nat) (acc : List S50), es.length - i = m → i ≤ es.length → m < k → acc.length ≤ i →
    PQueryCalls.graph_turned.l0 k acc (es.map to50) (es.length : Int) (i : Int) = some (acc ++ (es.drop i).map fun e => to50 (swapE e)) := by
  intro m
  induction m with
  | zero =>
    intro k i acc hm hi hk ha
    obtain ⟨k, rfl⟩ : ∃ k', k = k' + 1 := ⟨k - 1, by omega⟩
    have : i = es.length := by omega
    subst this
    simp [PQueryCalls.graph_turned.l0]
  | succ m ih =>
    intro k i acc hm hi hk ha
    obtain ⟨k, rfl⟩ : ∃ k', k = k' + 1 := ⟨k - 1, by omega⟩
    have hlt : i < es.length := by omega
    unfold PQueryCalls.graph_turned.l0
    rw [if_pos (by omega), if_pos (by omega), if_pos (by simp; omega), if_pos (by omega)]
    have hw : wrap64 ((i : Int) + 1) = ((i + 1 : Nat) : Int) := by unfold wrap64; omega
    rw [hw, ih k (i + 1) _ (by omega) (by omega) (by omega) (by simp; omega)]
    rw [List.drop_eq_getElem_cons hlt]
    have hr : rd_T50 (es.map to50) (i : Int) = to50 es[i] := by simp [rd_T50, List.getD_eq_getElem?_getD, List.getElem?_eq_getElem hlt]
    rw [hr]
    rw [List.map_cons, List.append_assoc]
    rfl

theorem turned58 (A : Option Addr) (cap : Nat) (es : List (S × Int × S)) (w : World) (hE : EdgeRow w A es) (hn : es.length ≤ 100000) (hc : es.length ≤ cap) :
    Calls Try.prog 58 #[.slice A es.length cap] w fun e w' => ∃ A' c', e = .returned (.slice A' (es.map swapE).length c') ∧ EdgeRow w' A' (es.map swapE) ∧ Below w.heap.size w w' := by
  have hf : PQueryCalls.graph_turned.f (es.length + 1) (es.map to50) = some ((es.map swapE).map to50) := by
    unfold PQueryCalls.graph_turned.f
    rw [List.length_map]
    have := turned_l0 es (by omega) es.length (es.length + 1) 0 [] (by omega) (by omega) (by omega) (by simp)
    simpa [Function.comp_def] using this
  have hC := C_of_edges hE (by omega)
  have := PQueryCalls.graph_turned.calls (es.length + 1) A cap (es.map to50) _ w (by rw [List.length_map]; exact hC) (by rw [List.length_map]; exact hc) hf
  rw [List.length_map] at this
  refine this.mono ?_
  rintro e w' ⟨v, rfl, hR, hB⟩
  obtain ⟨A', c', rfl, _, hC'⟩ := Kd.R_reads hR
  refine ⟨A', c', by simp, ?_, hB⟩
  have := edges_of_C hC'
  simpa [Function.comp_def, of_to50] using this
end Go.Proofs.Ytljfknneijmfoaa

namespace Go.Proofs.Ytljfknneijmfoaa
open Go.RowKit Go.Maps Go.WideMaps
open Go.Proofs.YtljfknneijmfoaaW.PrintWords (QRow q_of_own q_append q_drop q_cells q_slice q_move q_lt q_typed cut_from q_lower)

/-- A scope in which the run jumps back to one label: what goes on from the label is shown once. -/
theorem wp_scope_pass {P : Program} {a : Act} {w : World} {Q : Exit → Act → World → Prop} {c rest : Code} (l : Nat) (J : Act → World → Prop) (μ : Act → World → Nat) (hf : findLabel c l = some (Code.skip.seq rest))
    (pass : ∀ a w, J a w → ∀ J' : Act → World → Prop, (∀ a' w', J a' w' → μ a' w' < μ a w → J' a' w') → rest.wp P (Exit.jump l J' Q) a w)
    (first : ∀ J' : Act → World → Prop, (∀ a' w', J a' w' → J' a' w') → (∀ a w, J' a w → rest.wp P (Exit.jump l J' Q) a w) → c.wp P (Exit.jump l J' Q) a w) : (Code.scope c).wp P Q a w :=
  wp_scope_jumps l J μ hf (first J (fun _ _ h => h) fun a w hJ => pass a w hJ J fun _ _ h _ => h) fun a w hJ => wp_seq (wp_skip (pass a w hJ _ fun _ _ h h' => ⟨h, h'⟩))

theorem EdgeRow.below {w w' : World} {A : Option Addr} {es : List (S × Int × S)} {k : Nat} (h : EdgeRow w A es) (hB : Below k w w') (hk : w.heap.size ≤ k) : EdgeRow w' A es := by
  intro j e he
  obtain ⟨ad, ea, h0, h1, h2⟩ := h j e he
  have lt0 := World.block_lt_of_cell? w _ h0
  exact ⟨ad, ea, (hB.cell (by omega)).trans h0, (hB.cell (p := ⟨(ad.add (j * 3)).block, _, none⟩) (by show (ad.add (j * 3)).block < k; omega)).trans h1, (hB.cell (p := ⟨(ad.add (j * 3)).block, _, none⟩) (by show (ad.add (j * 3)).block < k; omega)).trans h2⟩

theorem far_one {w3 : World} {p : Nat} {E : Es} {t : S} (h : NetAt w3 p E) (hE : E.length ≤ 100000) (ht : t.length ≤ 100000) (he : ∀ e ∈ E, e.1.length ≤ 100000 ∧ e.2.length ≤ 100000) :
    Calls Try.prog 59 #[.pointer (some ⟨p, 0, none⟩), .slice (some ⟨w3.heap.size, 0, none⟩) 1 1] (w3.alloc (.cells #[.string (U t)] 9)) fun e w' => e = .returned (.map (some (w3.heap.size + 1))) ∧
      (∃ out N, hmap w' (w3.heap.size + 1) N (dmap out) ∧ (∀ x d, out x = some d → d ≤ 300000) ∧ ∀ x d, out x = some d ↔ Dist E [t] x d) ∧ Below w3.heap.size w3 w' := by
  have hb : Below w3.heap.size w3 (w3.alloc (.cells #[.string (U t)] 9)) := (Below.refl _ w3).alloc (Nat.le_refl _) _
  have hr : StrRow (w3.alloc (.cells #[.string (U t)] 9)) (some ⟨w3.heap.size, 0, none⟩) [t] := by
    intro k x hx
    cases k with
    | zero => cases hx; exact ⟨_, rfl, cell_of_block (j := 0) (block_new w3 _) rfl⟩
    | succ k => cases hx
  have hsz : (w3.alloc (.cells #[.string (U t)] 9)).heap.size = w3.heap.size + 1 := World.size_alloc _ _
  refine (far59 p E (some ⟨w3.heap.size, 0, none⟩) 1 [t] _ (h.below hb (Nat.le_refl _)) hr (by simp) hE (by simpa using ht) he).mono ?_
  rintro e w' ⟨rfl, ⟨out, N, hm, _, hd, hout⟩, hB⟩
  rw [hsz] at hm hB ⊢
  exact ⟨rfl, ⟨out, N, hm, hd, hout⟩, hb.trans (hB.mono (by omega))⟩

theorem own_one (w : World) (x : S) : (w.alloc (.cells #[.string (U x)] 9)).ownsRow w.heap.size 9 1 (.slice (some ⟨w.heap.size, 0, none⟩) 1 1) 1 [encStr x] :=
  ⟨by simp, .inr ⟨w.heap.size, 1, #[.string (U x)], rfl, Nat.le_refl _, block_new w _, Nat.le_refl _, by decide, rfl, rfl⟩⟩

/-- What stands at the label. -/
structure PathAt (w w4 wr : World) (E : Es) (f t : S) (p m : Nat) (pre : List S) (a : S) (d : Nat) (v : Value) : Prop where
  net : NetAt w4 p E
  far : ∃ out N, hmap w4 m N (dmap out) ∧ (∀ x d, out x = some d ↔ Dist (rev E) [t] x d)
  room : pre.length + d ≤ 300000
  here : Dist (rev E) [t] a d
  geo : ∃ d0, ∀ q, Geo E t d (a :: q) → Geo E t d0 (pre ++ a :: q)
  head : (pre ++ [a]).head? = some f
  small : a.length ≤ 100000
  row : wr.ownsRow w4.heap.size 9 1 v (pre.length + 1) ((pre ++ [a]).map encStr)
  base : Below w.heap.size w w4
  size : w.heap.size ≤ w4.heap.size
  below : Below w4.heap.size w4 wr
  grown : w4.heap.size ≤ wr.heap.size

set_option maxRecDepth 100000 in
theorem path27 (A : Option Addr) (cap : Nat) (es : List (S × Int × S)) (f t : S) (w : World) (hE : EdgeRow w A es) (hn : es.length ≤ 100000) (hc : es.length ≤ cap) (hs : ∀ e ∈ es, e.1.length ≤ 100000 ∧ e.2.2.length ≤ 100000)
    (hf : f.length ≤ 100000) (ht : t.length ≤ 100000) :
    Calls Try.prog 27 #[.slice A es.length cap, .string (U f), .string (U t)] w fun e w' => Below w.heap.size w w' ∧
      ((∃ v ps d, e = .returned (.tuple #[v, .int .i64 0]) ∧ Geo (ends es) t d ps ∧ ps.head? = some f ∧ w'.ownsRow w.heap.size 9 1 v ps.length (ps.map encStr)) ∨
        (e = .returned (.tuple #[.slice none 0 0, .int .i64 11]) ∧ ∀ d, ¬ Dist (rev (ends es)) [t] f d)) := by
  obtain ⟨i9, hi9, hz90, hz91, hz92⟩ := info_parts info9
  have hsE : ∀ e ∈ ends es, e.1.length ≤ 100000 ∧ e.2.length ≤ 100000 := by
    intro e he
    obtain ⟨x, hx, rfl⟩ := List.mem_map.1 he
    exact hs x hx
  have HE := Lib.hid hE
  have HS := Lib.hid hs
  have HSE := Lib.hid hsE
  have H57 := Lib.hid (netOf57 A cap es w hE hn hs)
  have hft : (U f).size ≤ maxLen := by rw [size_U]; unfold maxLen; omega
  have HFT := Lib.hid hft
  clear hE hs hft hsE
  go_enter Try.func27, Try.ntmps27
  go_wp2
  refine wp_scope_pass 0 (fun a' w' => ∃ (p m : Nat) (w4 : World) (pre : List S) (a : S) (d : Nat) (v6 : Value) (u3 u4 u5 u11 u12 u13 u14 u15 u16 u17 u18 u19 u20 u21 u22 u23 u24 u25 u26 u27 u28 u29 u30 u31 u32 u33 u34 u35 u36 u37 u38 u39 u40 u41 u42 u43 u44 u45 u46 u47 u48 u49 u50 u51 u52 u53 u54 u55 u56 u57 u58 u59 u60 u61 u62 u63 u64 u65 u66 u67 : Value), a' = { tmps := #[.slice A es.length cap, .string (U a), .string (U t), u3, u4, u5, v6, .int .i64 0, .pointer (some ⟨p, 0, none⟩), .map (some m), .int .i64 (d : Int), u11, u12, u13, u14, u15, u16, u17, u18, u19, u20, u21, u22, u23, u24, u25, u26, u27, u28, u29, u30, u31, u32, u33, u34, u35, u36, u37, u38, u39, u40, u41, u42, u43, u44, u45, u46, u47, u48, u49, u50, u51, u52, u53, u54, u55, u56, u57, u58, u59, u60, u61, u62, u63, u64, u65, u66, u67], defers := [] } ∧ PathAt w w4 w' (ends es) f t p m pre a d v6) (fun a' _ => (intOf (a'.tmps.getD 10 undef)).toNat) rfl ?_ ?_
  · rintro a' wr ⟨p, m, w4, pre, a, d, v6, u3, u4, u5, u11, u12, u13, u14, u15, u16, u17, u18, u19, u20, u21, u22, u23, u24, u25, u26, u27, u28, u29, u30, u31, u32, u33, u34, u35, u36, u37, u38, u39, u40, u41, u42, u43, u44, u45, u46, u47, u48, u49, u50, u51, u52, u53, u54, u55, u56, u57, u58, u59, u60, u61, u62, u63, u64, u65, u66, u67, rfl, hP⟩ J' hJ'
    have HJ' := Lib.hid hJ'
    clear hJ'
    have hdb : d ≤ 300000 := by have := hP.room; omega
    have HP := Lib.hid hP
    clear hP
    cases d with
    | zero =>
      go_wp2_with fail
      simp only [Exit.jump]
      go_ret2
      have hat : a = t := by
        obtain ⟨⟨s, hs, w0⟩, _⟩ := HP.out.here
        simp at hs
        subst hs
        cases w0
        rfl
      obtain ⟨d0, hd0⟩ := HP.out.geo
      have hg := hd0 [] (by rw [hat]; exact .nil)
      have hlen : (pre ++ [a]).length = pre.length + 1 := by simp
      refine ⟨HP.out.base.trans (HP.out.below.mono HP.out.size), .inl ⟨v6, pre ++ [a], d0, rfl, hg, HP.out.head, ?_⟩⟩
      rw [hlen]
      exact own_base HP.out.row HP.out.size
    | succ n =>
      obtain ⟨out, N, hm, hout⟩ := HP.out.far
      obtain ⟨vN, xsN, bx, nx, fx, h1, h2, _, _, _, h6⟩ := HP.out.net
      obtain ⟨ys, hys, hyl, hyo⟩ := h6 a
      obtain ⟨Ay, cy, hfy, hrow⟩ := row_own hyo
      have hpl : p < w4.heap.size := (Array.getElem?_eq_some_iff.1 h1).1
      have hcp := cell_of_block (j := 1) ((HP.out.below.block p hpl).trans h1) rfl
      have hmx := h2.below HP.out.below h2.lt
      have hmm := hm.below HP.out.below hm.lt
      have hua : (U a).size ≤ maxLen := by rw [size_U]; have := HP.out.small; unfold maxLen; omega
      have hrow2 := hrow.below HP.out.below (Nat.le_refl _)
      have HMX := Lib.hid hmx
      have HMM := Lib.hid hmm
      have HUA := Lib.hid hua
      have HFY := Lib.hid hfy
      have HYS := Lib.hid hys
      have HROW := Lib.hid hrow2
      have HOUT := Lib.hid hout
      clear hm hout h1 h2 h6 hyo hfy hrow hmx hmm hua hys hrow2
      go_wp2_with (first
        | (at_lookup; refine wpList_lookup_h _ rfl _ _ 88 rfl 22 Try.underlying88 (.slice none 0 0) (zero22 _) bx _ fx rfl HMX.out (U a) rfl HUA.out (.slice Ay ys.length cy) HFY.out ?_))
      obtain ⟨wo, rfl⟩ : ∃ wo : World, wo = wr := ⟨_, rfl⟩
      go_loopw [1, 6, 10, 44] (fun s1 s6 s10 i wr2 => s1 = .string (U a) ∧ s6 = v6 ∧ s10 = .int .i64 ((n : Int) + 1) ∧ ∃ k : Nat, k ≤ ys.length ∧ i = .int .i64 k ∧ wr2 = wo ∧ ∀ (j : Nat) (y : S), j < k → ys[j]? = some y → ¬ Dist (rev (ends es)) [t] y n) (fun _ _ _ i _ => ys.length - (intOf i).toNat)
      case atStart => exact ⟨by first | rfl | trivial, by first | rfl | trivial, by first | rfl | trivial, 0, Nat.zero_le _, rfl, by first | rfl | trivial, fun j y hj => absurd hj (Nat.not_lt_zero _)⟩
      case round =>
        obtain ⟨rfl, rfl, rfl, k, hk, rfl, rfl, hno⟩ := hrel
        have HNO := Lib.hid hno
        clear hno
        by_cases hlt : k < ys.length
        · obtain ⟨y, hy⟩ : ∃ y, ys[k]? = some y := ⟨_, List.getElem?_eq_getElem hlt⟩
          obtain ⟨ay, rfl, hcy⟩ := HROW.out k y hy
          have hay : (a, y) ∈ ends es := (HYS.out.2 y).1 (List.mem_of_getElem? hy)
          have huy : (U y).size ≤ maxLen := by rw [size_U]; have := (HSE.out _ hay).2; simp only at this; unfold maxLen; omega
          have HY := Lib.hid hy
          have HAY := Lib.hid hay
          have HUY := Lib.hid huy
          have hbu : B (U y) = y := B_U y
          have HBU := Lib.hid hbu
          clear hy hay huy hbu
          have hkb : k ≤ 1000000 := by omega
          cases hoy : out y with
          | none =>
            have hl1 : (dmap out (B (U y))).getD (.int .i64 0) = .int .i64 0 := by rw [HBU.out]; simp [dmap, hoy]
            have hl2 : (dmap out (B (U y))).isSome = false := by rw [HBU.out]; simp [dmap, hoy]
            have HL1 := Lib.hid hl1
            have HL2 := Lib.hid hl2
            have HOY := Lib.hid hoy
            clear hl1 hl2 hoy
            go_wp2_with (first
              | (at_lookup; refine wpList_lookup_ok_h _ rfl _ _ 84 rfl 3 Try.underlying84 (.int .i64 0) (zero3 _) m _ _ rfl HMM.out (U y) rfl HUY.out _ HL1.out _ HL2.out ?_))
            go_roundw
            case measure => simp [intOf]; omega
            case rel =>
              refine ⟨by first | rfl | trivial, by first | rfl | trivial, by first | rfl | trivial, k + 1, hlt, by go_num, by first | rfl | trivial, fun j z hj hz hd => ?_⟩
              by_cases hjk : j = k
              · subst hjk
                rw [HY.out] at hz
                cases hz
                have := (HOUT.out y n).2 hd
                rw [HOY.out] at this
                cases this
              · exact HNO.out j z (by omega) hz hd
          | some e =>
            have hl1 : (dmap out (B (U y))).getD (.int .i64 0) = .int .i64 (e : Int) := by rw [HBU.out]; simp [dmap, hoy]
            have hl2 : (dmap out (B (U y))).isSome = true := by rw [HBU.out]; simp [dmap, hoy]
            have HL1 := Lib.hid hl1
            have HL2 := Lib.hid hl2
            have HOY := Lib.hid hoy
            clear hl1 hl2 hoy
            by_cases hen : e = n
            · subst hen
              have hblk : ∀ j, u6.ownBlock = some j → w4.heap.size ≤ j := fun j hj => (HP.out.row.lt j hj).1
              have HBLK := Lib.hid hblk
              clear hblk
              go_wp2_with (first
                | (at_lookup; refine wpList_lookup_ok_h _ rfl _ _ 84 rfl 3 Try.underlying84 (.int .i64 0) (zero3 _) m _ _ rfl HMM.out (U y) rfl HUY.out _ HL1.out _ HL2.out ?_)
                | (at_builtin; refine wpList_append_lies _ (by rfl) _ _ _ (by rfl) w4.heap.size 9 i9 _ 1 16 Try.underlying22 hi9 hz90 hz91 hz92 rfl (by omega) u6 _ _ (by rfl) (HP.out.row.alloc _)
                    ⟨wr.heap.size, 0, none⟩ 1 1 [.string (U y)] (by rfl) (by rfl) (World.news_of_block (cs := #[.string (U y)]) (t := 9) (fr := (0, 0)) (heap_alloc_new wr _)) (by simp [Value.oneCell'])
                    (by omega) (by have := HP.out.room; unfold maxLen; omega) (by have := HP.out.room; omega) (by have := HP.out.grown; simp; omega) (wr.heap.size + 1) (by simp) ?_; intro gg cap' w3 hown3 hgrow hat hlt3; have HO3 := Lib.hid hown3; have HG3 := Lib.hid hgrow; clear hown3 hgrow hat hlt3))
              go_step3
              simp only [Exit.inBlock, Exit.then]
              have hHY := HY.out
              have s3 := HG3.out.size
              have s3' : wr.heap.size + 1 ≤ w3.heap.size := by simpa using s3
              have hle : ∀ u, (a, u) ∈ ends es → Dist (rev (ends es)) [t] u e → y ≤ u := by
                intro u hu hd
                obtain ⟨j, hj⟩ := List.mem_iff_getElem?.1 ((HYS.out.2 u).2 hu)
                have hjl : j < ys.length := (List.getElem?_eq_some_iff.1 hj).1
                have hjk : ¬ j < k := fun h => HNO.out j u h hj hd
                have e1 : ys[k] = y := by rw [List.getElem?_eq_getElem hlt] at hHY; exact Option.some.inj hHY
                have e2 : ys[j] = u := by rw [List.getElem?_eq_getElem hjl] at hj; exact Option.some.inj hj
                by_cases hkj : k = j
                · subst hkj
                  rw [← e1, ← e2]
                  exact Std.le_refl _
                · rw [← e1, ← e2]
                  exact Std.le_of_lt (List.pairwise_iff_getElem.1 HYS.out.1 k j hlt hjl (by omega))
              refine ⟨rfl, HJ'.out _ _ ⟨p, m, w4, pre ++ [a], y, e, _, _, _, _, _, _, _, _, _, _, _, _, _, _, _, _, _, _, _, _, _, _, _, _, _, _, _, _, _, _, _, _, _, _, _, _, _, _, _, _, _, _, _, _, _, _, _, _, _, _, _, _, _, _, _, _, _, _, _, _, _, rfl, ?_⟩ ?_⟩
              · refine ⟨HP.out.net, HP.out.far, ?_, (HOUT.out y e).1 HOY.out, ?_, ?_, (HSE.out _ HAY.out).2, ?_, HP.out.base, HP.out.size, ?_, ?_⟩
                · have := HP.out.room
                  simp
                  omega
                · obtain ⟨d0, hd0⟩ := HP.out.geo
                  refine ⟨d0, fun q hq => ?_⟩
                  have := hd0 (y :: q) (.cons HP.out.here HAY.out ((HOUT.out y e).1 HOY.out) hle hq)
                  simpa using this
                · have := HP.out.head
                  cases pre with
                  | nil => simpa using this
                  | cons z pre => simpa using this
                · have := HO3.out
                  simpa [enc_U] using this
                · have hb := HP.out.below.alloc HP.out.grown (.cells #[.string (U y)] 9)
                  exact hb.grown HG3.out hb.size HBLK.out
                · have := HP.out.grown
                  omega
              · simp [intOf]
            · have hne : ¬ ((e : Int) = (n : Int)) := by omega
              go_wp2_with (first
                | (at_lookup; refine wpList_lookup_ok_h _ rfl _ _ 84 rfl 3 Try.underlying84 (.int .i64 0) (zero3 _) m _ _ rfl HMM.out (U y) rfl HUY.out _ HL1.out _ HL2.out ?_))
              go_roundw
              case measure => simp [intOf]; omega
              case rel =>
                refine ⟨by first | rfl | trivial, by first | rfl | trivial, by first | rfl | trivial, k + 1, hlt, by go_num, by first | rfl | trivial, fun j z hj hz hd => ?_⟩
                by_cases hjk : j = k
                · subst hjk
                  rw [HY.out] at hz
                  cases hz
                  have := (HOUT.out y n).2 hd
                  rw [HOY.out] at this
                  exact hen (Option.some.inj this)
                · exact HNO.out j z (by omega) hz hd
        · exfalso
          obtain ⟨z, hz1, hz2⟩ := dist_next HP.out.here
          obtain ⟨j, hj⟩ := List.mem_iff_getElem?.1 ((HYS.out.2 z).2 hz1)
          have hjl : j < ys.length := (List.getElem?_eq_some_iff.1 hj).1
          exact HNO.out j z (by omega) hj hz2
  · intro J' hJ' PASS
    have HPASS := Lib.hid PASS
    have HJ' := Lib.hid hJ'
    clear PASS hJ'
    have tok1 : True := trivial
    have tok2 : True := trivial
    go_upto_region 3 with (first
      | (go_at_call 57; have _t := tok1; refine H57.out.mono ?_; rintro e w1 ⟨rfl, hN1, hB1⟩; have HN1 := Lib.hid hN1; have HB1 := Lib.hid hB1; clear tok1 hN1 hB1)
      | (go_at_call 58; refine (turned58 A cap es w1 (HE.out.below HB1.out (Nat.le_refl _)) hn hc).mono ?_; rintro e w2 ⟨A2, c2, rfl, hE2, hB2⟩; rw [List.length_map]; have HE2 := Lib.hid hE2; have HB2 := Lib.hid hB2; clear hE2 hB2)
      | (go_at_call 57; have _t := tok2; have h57 := netOf57 A2 c2 (es.map swapE) w2 HE2.out (by rw [List.length_map]; exact hn) (by intro e he; obtain ⟨x, hx, rfl⟩ := List.mem_map.1 he; exact ⟨(HS.out x hx).2, (HS.out x hx).1⟩); rw [List.length_map] at h57; refine h57.mono ?_; rintro e w3 ⟨rfl, hN3, hB3⟩; have HN3 := Lib.hid hN3; have HB3 := Lib.hid hB3; clear tok2 h57 hN3 hB3)
      | (go_at_call 59; have h59 := far_one (t := t) HN3.out (by unfold ends; simp; omega) ht (by rw [ends_swap]; intro e he; obtain ⟨x, hx, rfl⟩ := List.mem_map.1 he; exact ⟨(HSE.out x hx).2, (HSE.out x hx).1⟩); refine h59.mono ?_; rintro e w4 ⟨rfl, ⟨out, N, hm, hN, hout⟩, hB4⟩; rw [ends_swap] at hout; have HM := Lib.hid hm; have HN := Lib.hid hN; have HOUT := Lib.hid hout; have HB4 := Lib.hid hB4; clear h59 hm hN hout hB4))
    have hbu : B (U f) = f := B_U f
    have HBU := Lib.hid hbu
    clear hbu
    cases hof : out f with
    | none =>
      have hl1 : (dmap out (B (U f))).getD (.int .i64 0) = .int .i64 0 := by rw [HBU.out]; simp [dmap, hof]
      have hl2 : (dmap out (B (U f))).isSome = false := by rw [HBU.out]; simp [dmap, hof]
      have HL1 := Lib.hid hl1
      have HL2 := Lib.hid hl2
      have HOF := Lib.hid hof
      clear hl1 hl2 hof
      go_wp2_with (first
        | (at_lookup; refine wpList_lookup_ok_h _ rfl _ _ 84 rfl 3 Try.underlying84 (.int .i64 0) (zero3 _) (w3.heap.size + 1) _ _ rfl HM.out (U f) rfl HFT.out _ HL1.out _ HL2.out ?_))
      simp only [Exit.jump]
      go_ret2
      refine ⟨?_, .inr ⟨rfl, fun d hd => ?_⟩⟩
      · have s1 := HB1.out.size
        have s2 := HB2.out.size
        have s3 := HB3.out.size
        exact HB1.out.trans ((HB2.out.mono s1).trans ((HB3.out.mono (by omega)).trans (HB4.out.mono (by omega))))
      · have := (HOUT.out f d).2 hd
        rw [HOF.out] at this
        cases this
    | some d =>
      have hl1 : (dmap out (B (U f))).getD (.int .i64 0) = .int .i64 (d : Int) := by rw [HBU.out]; simp [dmap, hof]
      have hl2 : (dmap out (B (U f))).isSome = true := by rw [HBU.out]; simp [dmap, hof]
      have HL1 := Lib.hid hl1
      have HL2 := Lib.hid hl2
      have HOF := Lib.hid hof
      clear hl1 hl2 hof
      go_upto_region 7 with (first
        | (at_lookup; refine wpList_lookup_ok_h _ rfl _ _ 84 rfl 3 Try.underlying84 (.int .i64 0) (zero3 _) (w3.heap.size + 1) _ _ rfl HM.out (U f) rfl HFT.out _ HL1.out _ HL2.out ?_))
      go_step3
      rename_i KK hKK
      refine hKK _ _ ?_
      have s1 := HB1.out.size
      have s2 := HB2.out.size
      have s3 := HB3.out.size
      have s4 := HB4.out.size
      refine HPASS.out _ _ (HJ'.out _ _ ⟨w.heap.size + 2, w3.heap.size + 1, w4, [], f, d, _, _, _, _, _, _, _, _, _, _, _, _, _, _, _, _, _, _, _, _, _, _, _, _, _, _, _, _, _, _, _, _, _, _, _, _, _, _, _, _, _, _, _, _, _, _, _, _, _, _, _, _, _, _, _, _, _, _, _, _, _, rfl, ?_⟩)
      refine ⟨?_, ⟨out, N, HM.out, HOUT.out⟩, ?_, (HOUT.out f d).1 HOF.out, ⟨d, fun q hq => hq⟩, rfl, hf, ?_, ?_, ?_, ?_, ?_⟩
      · have n2 := HN1.out.below HB2.out (Nat.le_refl _)
        have n3 := n2.below HB3.out (Nat.le_refl _)
        exact n3.below HB4.out (Nat.le_refl _)
      · have := HN.out f d HOF.out
        simpa using this
      · exact own_one w4 f
      · exact HB1.out.trans ((HB2.out.mono s1).trans ((HB3.out.mono (by omega)).trans (HB4.out.mono (by omega))))
      · omega
      · exact (Below.refl _ w4).alloc (Nat.le_refl _) _
      · simp
end Go.Proofs.Ytljfknneijmfoaa
namespace Go.Proofs.Ytljfknneijmfoaa
open Go.RowKit Go.Maps Go.WideMaps Go.Lib
open Go.Proofs.YtljfknneijmfoaaW.PrintWords (q_of_own q_slice q_cells)
theorem toList_U (x : S) : (U x).toList = x := ByteArray.toList_mk x

theorem beq_U_true {x y : S} (h : x = y) : ((U x).toList == (U y).toList) = true := by rw [toList_U, toList_U]; simpa using h

theorem beq_U_false {x y : S} (h : ¬ x = y) : ((U x).toList == (U y).toList) = false := by rw [toList_U, toList_U]; simpa using h

/-- What a shortest way's answer is. -/
def WayAns (base : Nat) (w' : World) (E : Es) (f t : S) (v : Value) (c : Int) : Prop :=
  (c = 0 ∧ ∃ ps d, Geo E t d ps ∧ ps.head? = some f ∧ w'.ownsRow base 9 1 v ps.length (ps.map encStr)) ∨ (c = 11 ∧ v = .slice none 0 0 ∧ ∀ d, ¬ Dist (rev E) [t] f d)

theorem WayAns.lower {base base' : Nat} {w' : World} {E : Es} {f t : S} {v : Value} {c : Int} (h : WayAns base w' E f t v c) (hb : base' ≤ base) : WayAns base' w' E f t v c := by
  rcases h with ⟨h0, ps, d, h1, h2, h3⟩ | h
  · exact .inl ⟨h0, ps, d, h1, h2, own_base h3 hb⟩
  · exact .inr h

theorem path27' (A : Option Addr) (cap : Nat) (es : List (S × Int × S)) (f t : S) (w : World) (hE : EdgeRow w A es) (hn : es.length ≤ 100000) (hc : es.length ≤ cap) (hs : ∀ e ∈ es, e.1.length ≤ 100000 ∧ e.2.2.length ≤ 100000)
    (hf : f.length ≤ 100000) (ht : t.length ≤ 100000) :
    Calls Try.prog 27 #[.slice A es.length cap, .string (U f), .string (U t)] w fun e w' => ∃ v c, e = .returned (.tuple #[v, .int .i64 c]) ∧ WayAns w.heap.size w' (ends es) f t v c ∧ Below w.heap.size w w' := by
  refine (path27 A cap es f t w hE hn hc hs hf ht).mono ?_
  rintro e w' ⟨hB, ⟨v, ps, d, rfl, hg, hh, ho⟩ | ⟨rfl, hno⟩⟩
  · exact ⟨v, 0, rfl, .inl ⟨rfl, ps, d, hg, hh, ho⟩, hB⟩
  · exact ⟨_, 11, rfl, .inr ⟨rfl, rfl, hno⟩, hB⟩
end Go.Proofs.Ytljfknneijmfoaa
