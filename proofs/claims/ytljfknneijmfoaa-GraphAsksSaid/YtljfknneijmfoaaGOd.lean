import Derived.Test.YtljfknneijmfoaaGRg
import Derived.Test.YtljfknneijmfoaaGQs
import Derived.Test.YtljfknneijmfoaaRch
import Derived.Test.YtljfknneijmfoaaDotP
import Derived.Shelf.Abstract
namespace Go.Proofs.Ytljfknneijmfoaa
open Go.RowKit Go.Maps Go.WideMaps Go.Lib
open Go.Proofs.YtljfknneijmfoaaW.PrintWords (q_of_own q_slice add_at)
open PQueryCalls
theorem edges25z {A : Option Addr} {c : Nat} {es : List (S × Int × S)} (h1 : es.length ≤ c) (h2 : c ≤ maxLen) (h4 : ∀ e ∈ es, e.1.length ≤ maxLen ∧ e.2.2.length ≤ maxLen ∧ -9223372036854775808 ≤ e.2.1 ∧ e.2.1 ≤ 9223372036854775807) :
    ∃ z, (z ≤ 400 → es.length ≤ 400 ∧ ∀ e ∈ es, e.1.length ≤ 400 ∧ e.2.2.length ≤ 400) ∧ ∀ w, EdgeRow w A es → Calls Try.prog 25 #[.slice A es.length c, .int .i64 400] w fun ee w' => ee = .returned (.int .i64 z) ∧ Below w.heap.size w w' := by
  unfold maxLen at *
  obtain ⟨t2, e2, a2, b2, c2⟩ := edges_m0 es (by omega) (fun e he => ⟨(h4 e he).1, (h4 e he).2.1⟩) es.length (es.length + 20) 0 0 (by omega) (by omega) (by omega) (by omega) (by omega)
  refine ⟨t2, fun hz => ?_, fun w h3 => ?_⟩
  · have h5 := c2 hz
    rw [List.drop_zero] at h5
    exact sizesE_length4 (by omega)
  · have hr := C_of_edgesQ h3 (by omega)
    have := lanternalike_Edges.calls (es.length + 20) A c (es.map toQ50) 400 t2 w (by simpa using hr) (by simpa using h1) (by unfold lanternalike_Edges.f; exact e2)
    simpa only [List.length_map] using this
end Go.Proofs.Ytljfknneijmfoaa
namespace Go.Proofs.Ytljfknneijmfoaa
open Go.RowKit Go.Maps Go.WideMaps Go.Lib
open Go.Proofs.YtljfknneijmfoaaW.PrintWords (q_of_own q_slice q_cells add_at)

/-- t hinders s: s comes to it, and it does not come to s. -/
noncomputable def hind (E : Es) (s t : S) : Bool := @decide (t ≠ s ∧ Lead E s t ∧ ¬ Lead E t s) (Classical.propDecidable _)

theorem hind_iff {E : Es} {s t : S} : hind E s t = true ↔ t ≠ s ∧ Lead E s t ∧ ¬ Lead E t s := by unfold hind; exact @decide_eq_true_iff _ (Classical.propDecidable _)

theorem free_iff {E : Es} {left : List S} {s : S} : left.any (hind E s) = false ↔ Free E left s := by
  rw [List.any_eq_false]
  constructor
  · intro h t ht hne hc
    have h1 := h t ht
    rw [hind_iff] at h1
    apply Classical.byContradiction
    intro hn
    exact h1 ⟨hne, conn_lead hc (fun e => hne e.symm), fun hl => hn (lead_conn hl)⟩
  · intro h t ht hh
    obtain ⟨h1, h2, h3⟩ := hind_iff.1 hh
    exact h3 (conn_lead (h t ht h1 (lead_conn h2)) h1)

set_option maxRecDepth 100000 in
/-- The inner closure: does t hinder s? -/
theorem hinds76 {w : World} {b base N : Nat} {E : Es} {nodes : List S} (h : WaysAt w b base E N nodes) (s t : S) (hs : s ∈ nodes) (ht : t ∈ nodes) (hsl : s.length ≤ 100000) (htl : t.length ≤ 100000) (p q : Addr)
    (hp : w.cell? p = some (.string (U s))) (hq : w.cell? q = some (.map (some b))) :
    Calls Try.prog 76 #[.string (U t), .pointer (some p), .pointer (some q)] w fun e w' => e = .returned (.bool (hind E s t)) ∧ Below w.heap.size w w' := by
  obtain ⟨v, hv⟩ : ∃ v, v = hind E s t := ⟨_, rfl⟩
  rw [← hv]
  by_cases hts : t = s
  · have hv0 : v = false := by rw [hv, ← Bool.not_eq_true, hind_iff]; exact fun h => h.1 hts
    have hb := beq_U_true hts
    subst hv0
    clear hts hv
    go_enter Try.func76, Try.ntmps76
    go_wp2
    go_ret
    exact ⟨rfl, Below.refl _ _⟩
  · have hb := beq_U_false hts
    by_cases h1 : Lead E s t
    · have H1 := Lib.hid (leads64 h s t hs hsl htl true ⟨fun _ => h1, fun _ => rfl⟩)
      by_cases h2 : Lead E t s
      · have H2 := Lib.hid (leads64 h t s ht htl hsl true ⟨fun _ => h2, fun _ => rfl⟩)
        have hv0 : v = false := by rw [hv, ← Bool.not_eq_true, hind_iff]; exact fun h => h.2.2 h2
        subst hv0
        clear hts hv h1 h2 h hs ht
        go_enter Try.func76, Try.ntmps76
        go_wp2_with (first
          | (go_at_call 64; (with_reducible refine (H1.out.mono ?_)); rintro ee w1 ⟨rfl, rfl⟩)
          | (go_at_call 64; (with_reducible refine (H2.out.mono ?_)); rintro ee w2 ⟨rfl, rfl⟩))
        go_ret
        exact ⟨rfl, Below.refl _ _⟩
      · have H2 := Lib.hid (leads64 h t s ht htl hsl false ⟨fun h => (by cases h), fun h => absurd h h2⟩)
        have hv0 : v = true := by rw [hv, hind_iff]; exact ⟨hts, h1, h2⟩
        subst hv0
        clear hts hv h1 h2 h hs ht
        go_enter Try.func76, Try.ntmps76
        go_wp2_with (first
          | (go_at_call 64; (with_reducible refine (H1.out.mono ?_)); rintro ee w1 ⟨rfl, rfl⟩)
          | (go_at_call 64; (with_reducible refine (H2.out.mono ?_)); rintro ee w2 ⟨rfl, rfl⟩))
        go_ret
        exact ⟨rfl, Below.refl _ _⟩
    · have H1 := Lib.hid (leads64 h s t hs hsl htl false ⟨fun h => (by cases h), fun h => absurd h h1⟩)
      have hv0 : v = false := by rw [hv, ← Bool.not_eq_true, hind_iff]; exact fun h => h1 h.2.1
      subst hv0
      clear hts hv h1 h hs ht
      go_enter Try.func76, Try.ntmps76
      go_wp2_with (go_at_call 64; (with_reducible refine (H1.out.mono ?_)); rintro ee w1 ⟨rfl, rfl⟩)
      go_ret
      exact ⟨rfl, Below.refl _ _⟩

/-- What is asked of a predicate that is handed over. -/
def PredOn (g : Nat) (lb : Array Value) (p : S → Bool) (zs : List S) (w : World) : Prop :=
  ∀ (W : World) (x : S), x ∈ zs → Below w.heap.size w W → Calls Try.prog g (#[.string (U x)] ++ lb) W fun e w' => e = .returned (.bool (p x)) ∧ Below w.heap.size w w'

/-- The first place of which a predicate holds. -/
def FirstAt (p : S → Bool) (zs : List S) (r : Int) : Prop :=
  (∃ (i : Nat) (x : S), zs[i]? = some x ∧ r = i ∧ p x = true ∧ ∀ (j : Nat) (y : S), j < i → zs[j]? = some y → p y = false) ∨ (r = -1 ∧ ∀ x, x ∈ zs → p x = false)

set_option maxRecDepth 100000 in
set_option maxHeartbeats 2000000 in
theorem index73 (g : Nat) (lb : Array Value) (eg : ∀ args w, (callFunc g args).run Try.prog w = .ok (.enter g args) w) (A : Option Addr) (c : Nat) (zs : List S) (p : S → Bool) (w : World) (hp : PredOn g lb p zs w) (hr : StrRow w A zs) (hn : zs.length ≤ 1000000) :
    Calls Try.prog 73 #[.slice A zs.length c, .func (.func g) #[] lb] w fun e w' => ∃ r, e = .returned (.int .i64 r) ∧ FirstAt p zs r ∧ Below w.heap.size w w' := by
  have HP := Lib.hid hp
  have HR := Lib.hid hr
  clear hp hr
  go_enter Try.func73, Try.ntmps73
  go_wp2
  go_loopw [5, 8] (fun _ i wr => ∃ k : Nat, k ≤ zs.length ∧ i = .int .i64 k ∧ (∀ (j : Nat) (y : S), j < k → zs[j]? = some y → p y = false) ∧ Below w.heap.size w wr) (fun _ i _ => zs.length - (intOf i).toNat)
  case atStart => exact ⟨0, Nat.zero_le _, rfl, fun j y h => absurd h (Nat.not_lt_zero _), Below.refl _ _⟩
  case round =>
    obtain ⟨k, hk, rfl, hall, hB⟩ := hrel
    have HALL := Lib.hid hall
    have HB := Lib.hid hB
    clear hall hB
    by_cases hlt : k < zs.length
    · obtain ⟨x, hx⟩ : ∃ x, zs[k]? = some x := ⟨_, List.getElem?_eq_getElem hlt⟩
      obtain ⟨ad, rfl, hc⟩ := (HR.out.below HB.out (Nat.le_refl _)) k x hx
      have hkb : k ≤ 1000000 := by omega
      have HC := Lib.hid (HP.out wr x (List.mem_of_getElem? hx) HB.out)
      have HX := Lib.hid hx
      clear hx
      cases hq : p x with
      | true =>
        have HQ := Lib.hid hq
        rw [hq] at HC
        clear hq
        go_wp2_with (go_at_fn g; refine HC.out.mono ?_; rintro e w' ⟨rfl, hb'⟩)
        go_ret
        exact ⟨_, rfl, .inl ⟨k, x, HX.out, rfl, HQ.out, HALL.out⟩, hb'⟩
      | false =>
        have HQ := Lib.hid hq
        rw [hq] at HC
        clear hq
        go_wp2_with (go_at_fn g; refine HC.out.mono ?_; rintro e w' ⟨rfl, hb'⟩)
        go_roundw
        case measure => simp [intOf]; omega
        case rel =>
          refine ⟨k + 1, hlt, by go_num, fun j y hj hy => ?_, hb'⟩
          by_cases e : j = k
          · subst e
            have h := HX.out
            rw [hy] at h
            cases h
            exact HQ.out
          · exact HALL.out j y (by omega) hy
    · have hke : k = zs.length := by omega
      subst hke
      go_wp2
      go_ret
      refine ⟨_, rfl, .inr ⟨rfl, fun x hx => ?_⟩, HB.out⟩
      obtain ⟨i, hi, rfl⟩ := List.mem_iff_getElem.1 hx
      exact HALL.out i _ hi (List.getElem?_eq_getElem hi)

theorem enters76 (args : Array Value) (w : World) : (callFunc 76 args).run Try.prog w = .ok (.enter 76 args) w := by
  have h : (Try.f76.name == "runtime.NumGoroutine") = false := by kernel_rfl
  exact enters_of Try.func76 h rfl args w

theorem enters74 (args : Array Value) (w : World) : (callFunc 74 args).run Try.prog w = .ok (.enter 74 args) w := by
  have h : (Try.f74.name == "runtime.NumGoroutine") = false := by kernel_rfl
  exact enters_of Try.func74 h rfl args w

theorem first_any {p : S → Bool} {zs : List S} {r : Int} (h : FirstAt p zs r) : decide (0 ≤ r) = zs.any p := by
  rw [Bool.eq_iff_iff, decide_eq_true_iff, List.any_eq_true]
  rcases h with ⟨i, x, hx, rfl, hp, _⟩ | ⟨rfl, h⟩
  · exact ⟨fun _ => ⟨x, List.mem_of_getElem? hx, hp⟩, fun _ => by omega⟩
  · refine ⟨fun h => absurd h (by omega), ?_⟩
    rintro ⟨x, hx, hp⟩
    rw [h x hx] at hp
    cases hp

set_option maxRecDepth 100000 in
theorem contains75 (g : Nat) (lb : Array Value) (eg : ∀ args w, (callFunc g args).run Try.prog w = .ok (.enter g args) w) (A : Option Addr) (c : Nat) (zs : List S) (p : S → Bool) (w : World) (hp : PredOn g lb p zs w) (hr : StrRow w A zs) (hn : zs.length ≤ 1000000) :
    Calls Try.prog 75 #[.slice A zs.length c, .func (.func g) #[] lb] w fun e w' => e = .returned (.bool (zs.any p)) ∧ Below w.heap.size w w' := by
  have H := Lib.hid (index73 g lb eg A c zs p w hp hr hn)
  clear hp hr
  go_enter Try.func75, Try.ntmps75
  go_wp2_with (go_at_call 73; refine H.out.mono ?_; rintro e w1 ⟨r, rfl, hF, hB⟩; have HF := Lib.hid (first_any hF); have HB := Lib.hid hB; clear hF hB)
  go_ret
  exact ⟨by first | rfl | (rw [HF.out]; rfl), HB.out⟩

set_option maxRecDepth 100000 in
/-- The outer closure: does nobody hinder s? -/
theorem free74 {w : World} {b base N : Nat} {E : Es} {nodes left : List S} {A : Option Addr} {c : Nat} (h : WaysAt w b base E N nodes) (hl : ∀ x ∈ left, x ∈ nodes) (hz : ∀ x ∈ nodes, x.length ≤ 100000) (s : S) (hs : s ∈ nodes) (p q : Addr)
    (hp : w.cell? p = some (.slice A left.length c)) (hq : w.cell? q = some (.map (some b))) (hr : StrRow w A left) (hn : left.length ≤ 1000000) :
    Calls Try.prog 74 #[.string (U s), .pointer (some p), .pointer (some q)] w fun e w' => e = .returned (.bool (!(left.any (hind E s)))) ∧ Below w.heap.size w w' := by
  obtain ⟨w1, hw1⟩ : ∃ w1, w1 = w.alloc (.cells #[.string (U s)] 9) := ⟨_, rfl⟩
  have hb1 : Below w.heap.size w w1 := by rw [hw1]; exact (Below.refl _ w).alloc (Nat.le_refl _) _
  have c1 : w1.cell? ⟨w.heap.size, 0, none⟩ = some (.string (U s)) := by rw [hw1]; exact cell_of_block (j := 0) (heap_alloc_new w _) rfl
  have cp : w1.cell? p = some (.slice A left.length c) := (hb1.cell (World.block_lt_of_cell? _ _ hp)).trans hp
  have hq1 : w1.cell? q = some (.map (some b)) := (hb1.cell (World.block_lt_of_cell? _ _ hq)).trans hq
  have hw := h.below hb1 (Nat.le_refl _)
  have H := Lib.hid (contains75 76 #[.pointer (some ⟨w.heap.size, 0, none⟩), .pointer (some q)] enters76 A c left (hind E s) w1 (fun W x hx hB => by
    have hh := hinds76 (hw.below hB (Nat.le_refl _)) s x hs (hl x hx) (hz s hs) (hz x (hl x hx)) ⟨w.heap.size, 0, none⟩ q ((hB.cell (World.block_lt_of_cell? _ _ c1)).trans c1) ((hB.cell (World.block_lt_of_cell? _ _ hq1)).trans hq1)
    exact hh.mono fun e w' ⟨h1, h2⟩ => ⟨h1, hB.trans (h2.mono hB.size)⟩) (hr.below hb1 (Nat.le_refl _)) hn)
  have HB1 := Lib.hid hb1
  clear hb1 c1 hq1 hw h hl hz hs hp hq hr
  go_enter Try.func74, Try.ntmps74
  go_upto_region 1 with (fail)
  rw [← hw1]
  clear hw1
  go_wp2_with (go_at_call 75; refine H.out.mono ?_; rintro e w2 ⟨rfl, hB⟩; have HB := Lib.hid hB; clear hB)
  go_ret
  exact ⟨rfl, HB1.out.trans (HB.out.mono HB1.out.size)⟩
end Go.Proofs.Ytljfknneijmfoaa
namespace Go.Proofs.Ytljfknneijmfoaa
open Go.RowKit Go.Maps Go.WideMaps Go.Lib Go.Sort
open Go.Proofs.YtljfknneijmfoaaW.PrintWords (q_of_own q_slice q_cells add_at)

theorem cut_at {l : List S} {i : Nat} {x : S} (h : SS l) (hx : l[i]? = some x) : l.take i ++ l.drop (i + 1) = l.filter fun y => !(y == x) := by
  induction l generalizing i with
  | nil => simp at hx
  | cons a r ih =>
    obtain ⟨h1, h2⟩ := List.pairwise_cons.1 h
    cases i with
    | zero =>
      simp at hx
      subst hx
      simp only [List.take_zero, List.nil_append, Nat.zero_add, List.drop_succ_cons, List.drop_zero, List.filter_cons, beq_self_eq_true, Bool.not_true, Bool.false_eq_true, if_false]
      refine (List.filter_eq_self.2 fun y hy => ?_).symm
      have hlt := h1 y hy
      have hne : y ≠ a := fun e => by rw [e] at hlt; exact Std.lt_irrefl hlt
      simpa using hne
    | succ i =>
      have hx' : r[i]? = some x := by simpa using hx
      have hlt := h1 x (List.mem_of_getElem? hx')
      have hne : a ≠ x := fun e => by rw [e] at hlt; exact Std.lt_irrefl hlt
      rw [List.take_succ_cons, List.drop_succ_cons, List.cons_append, ih h2 hx', List.filter_cons, if_pos (by simpa using hne)]

theorem cut_ss {l : List S} {i : Nat} (h : SS l) : SS (l.take i ++ l.drop (i + 1)) := by
  rw [← List.eraseIdx_eq_take_drop_succ]
  exact h.sublist (List.eraseIdx_sublist l i)

/-- What stands next. -/
theorem ord_step {E : Es} {left : List S} {r : Int} (hS : SS left) (hne : left ≠ []) (hF : FirstAt (fun s => !(left.any (hind E s))) left r) :
    ∃ (i : Nat) (x : S), r = i ∧ i < left.length ∧ left[i]? = some x ∧ ∀ rest, Ord E (left.take i ++ left.drop (i + 1)) rest → Ord E left (x :: rest) := by
  have hfree : ∀ s, (!(left.any (hind E s))) = true ↔ Free E left s := fun s => by rw [Bool.not_eq_true', free_iff]
  rcases hF with ⟨i, x, hx, rfl, hp, hl⟩ | ⟨_, hn⟩
  · have hi := (List.getElem?_eq_some_iff.1 hx).1
    refine ⟨i, x, rfl, hi, hx, fun rest ho => ?_⟩
    rw [cut_at hS hx] at ho
    refine .cons (List.mem_of_getElem? hx) ((hfree x).1 hp) (fun u hu hf => ?_) ho
    obtain ⟨j, hj, rfl⟩ := List.mem_iff_getElem.1 hu
    by_cases hji : j < i
    · have := hl j _ hji (List.getElem?_eq_getElem hj)
      have h2 := (hfree _).2 hf
      simp only at this
      rw [h2] at this
      cases this
    · have e := (List.getElem?_eq_some_iff.1 hx).2
      rcases Nat.lt_or_ge i j with h | h
      · exact Std.le_of_lt (by rw [← e]; exact List.pairwise_iff_getElem.1 hS i j hi hj h)
      · have : i = j := by omega
        subst this
        rw [e]
        exact Std.le_refl x
  · obtain ⟨s, hs, hf⟩ := exists_free E left hne
    have := hn s hs
    have h2 := (hfree s).2 hf
    simp only at this
    rw [h2] at this
    cases this

/-- Where they lie that are left. -/
def LeftRow (w : World) (base : Nat) (A : Option Addr) (left : List S) (cap : Nat) : Prop :=
  left.length ≤ cap ∧ cap ≤ 9223372036854775807 ∧ (left = [] ∨ ∃ blk, A = some ⟨blk, 0, none⟩ ∧ base ≤ blk ∧ blk < w.heap.size ∧ Holds encStr w blk 0 left.toArray)

theorem LeftRow.row {w : World} {base : Nat} {A : Option Addr} {left : List S} {cap : Nat} (h : LeftRow w base A left cap) : StrRow w A left := by
  intro k x hx
  rcases h.2.2 with rfl | ⟨blk, rfl, _, _, hH⟩
  · simp at hx
  · have hk := (List.getElem?_eq_some_iff.1 hx).1
    refine ⟨_, rfl, ?_⟩
    have h1 := (hH k (by simpa using hk)).1
    have e : left.toArray[k]! = x := by
      rw [getElem!_pos left.toArray k (by simpa using hk)]
      simpa using (List.getElem?_eq_some_iff.1 hx).2
    rw [e, enc_U] at h1
    rw [add_at]
    exact h1

theorem LeftRow.kept {w w' : World} {base : Nat} {A : Option Addr} {left : List S} {cap : Nat} (h : LeftRow w base A left cap) (hs : w.heap.size ≤ w'.heap.size) (hk : ∀ b, A = some ⟨b, 0, none⟩ → b < w.heap.size → w'.heap[b]? = w.heap[b]?) : LeftRow w' base A left cap := by
  refine ⟨h.1, h.2.1, h.2.2.imp id ?_⟩
  rintro ⟨blk, rfl, h1, h2, h3⟩
  refine ⟨blk, rfl, h1, by omega, fun j hj => ?_⟩
  have e := hk blk rfl h2
  obtain ⟨c1, c2⟩ := h3 j hj
  exact ⟨(World.cell?_of_block e).trans c1, (World.frozen?_of_block e).trans c2⟩

theorem left_of_own {w : World} {base : Nat} {A : Option Addr} {c : Nat} {xs : List S} (h : w.ownsRow base 9 1 (.slice A xs.length c) xs.length (xs.map encStr)) : LeftRow w base A xs c := by
  rcases h.2 with ⟨he, h0⟩ | ⟨g, cap, cur, he, hg, hh, hnc, hm, hcs, ht⟩
  · have : xs = [] := List.length_eq_zero_iff.1 h0
    subst this
    injection he with _ _ hc
    subst hc
    exact ⟨Nat.le_refl _, by omega, .inl rfl⟩
  · injection he with ha _ hc
    subst ha hc
    refine ⟨hnc, by unfold maxLen at hm; omega, .inr ⟨g, rfl, hg, (Array.getElem?_eq_some_iff.1 hh).1, fun j hj => ?_⟩⟩
    have hj' : j < xs.length := by simpa using hj
    rw [Nat.zero_add]
    refine ⟨cell_of_block hh ?_, frozen_of_block hh⟩
    have h1 : (xs.map encStr)[j]? = some (encStr xs.toArray[j]!) := by
      rw [List.getElem?_map, List.getElem?_eq_getElem hj', getElem!_pos xs.toArray j hj]
      simp
    rw [← ht, List.getElem?_take_of_lt (by omega)] at h1
    simpa using h1

/-- slices.Clone of a row of one's own. -/
theorem clone72 {w : World} {base : Nat} {v : Value} {xs : List S} (h : w.ownsRow base 9 1 v xs.length (xs.map encStr)) (hn : xs.length ≤ 1000000) :
    Calls Try.prog 72 #[v] w fun e w' => ∃ A c, e = .returned (.slice A xs.length c) ∧ LeftRow w' w.heap.size A xs c ∧ Below w.heap.size w w' := by
  rcases h.2 with ⟨he, h0⟩ | ⟨g, cap, cur, he, hg, hh, hnc, hm, hcs, ht⟩
  · have : xs = [] := List.length_eq_zero_iff.1 h0
    subst this
    subst he
    refine (Try.slices_Clone_string_nil 0 0 w).mono ?_
    rintro e w' ⟨rfl, rfl⟩
    exact ⟨none, 0, rfl, ⟨Nat.le_refl _, by omega, .inl rfl⟩, Below.refl _ _⟩
  · subst he
    by_cases h0 : xs.length = 0
    · have : xs = [] := List.length_eq_zero_iff.1 h0
      subst this
      refine (Try.slices_Clone_string_zero ⟨g, 0, none⟩ cap w).mono ?_
      rintro e w' ⟨v', rfl, ho, _, hB⟩
      obtain ⟨A, c, rfl⟩ := own_form ho
      exact ⟨A, c, rfl, left_of_own (xs := []) ho, hB⟩
    · refine (Try.slices_Clone_string g 0 xs.length cap (xs.map U) w (by simp) (by omega) fun j hj => ?_).mono ?_
      · have hj' : j < xs.length := by simpa using hj
        have hl := (left_of_own (c := cap) (A := some ⟨g, 0, none⟩) h).row j xs[j] (List.getElem?_eq_getElem hj')
        obtain ⟨_, e, hc⟩ := hl
        cases e
        rw [add_at] at hc
        simpa [List.getD_eq_getElem?_getD, List.getElem?_eq_getElem hj'] using hc
      · rintro e w' ⟨v', rfl, ho, _, hB⟩
        have hm2 : ((xs.map U).take xs.length).map Value.string = xs.map encStr := by
          rw [show (xs.map U).take xs.length = xs.map U from List.take_of_length_le (by simp), List.map_map]
          rfl
        rw [hm2] at ho
        obtain ⟨A, c, rfl⟩ := own_form ho
        exact ⟨A, c, rfl, left_of_own ho, hB⟩

/-- slices.Delete of one. -/
theorem delete77 {w : World} {base cap i : Nat} {A : Option Addr} {left : List S} (h : LeftRow w base A left cap) (hi : i < left.length) :
    Calls Try.prog 77 #[.slice A left.length cap, .int .i64 i, .int .i64 ((i : Int) + 1)] w fun e w' => ∃ l', l' = left.take i ++ left.drop (i + 1) ∧ e = .returned (.slice A l'.length cap) ∧ LeftRow w' base A l' cap ∧
      w'.heap.size = w.heap.size ∧ Below base w w' ∧ ∀ j, A ≠ some ⟨j, 0, none⟩ → w'.heap[j]? = w.heap[j]? := by
  obtain ⟨hc, hm, h0 | ⟨blk, rfl, hb, hs, hH⟩⟩ := h
  · rw [h0] at hi
    simp at hi
  · have hlen : (left.take i ++ left.drop (i + 1)).length = left.length - (i + 1 - i) := by
      rw [List.length_append, List.length_take, List.length_drop]
      omega
    have hl1 : (left.take i ++ left.drop (i + 1)).length = left.length - 1 := by rw [hlen]; omega
    have hd := Try.slices_Delete_string blk 0 cap i (i + 1) left w hH hc hm (by omega) (by omega)
    refine hd.mono ?_
    rintro e w' ⟨rfl, q, rfl⟩
    have hsz : (left.take i ++ left.drop (i + 1) ++ List.replicate (i + 1 - i) []).toArray.size = left.toArray.size := by
      rw [List.size_toArray, List.size_toArray, List.length_append, hlen, List.length_replicate]
      omega
    have hHa : Holds encStr (Sort.ahead w q) blk 0 left.toArray := hH
    have hH2 := holds_putRow encStr (Sort.ahead w q) blk 0 left.toArray _ hHa hsz
    have hzz : (putRow encStr (Sort.ahead w q) blk 0 (left.take i ++ left.drop (i + 1) ++ List.replicate (i + 1 - i) []).toArray).heap.size = w.heap.size := by rw [size_putRow]; rfl
    have hoth : ∀ j, j ≠ blk → (putRow encStr (Sort.ahead w q) blk 0 (left.take i ++ left.drop (i + 1) ++ List.replicate (i + 1 - i) []).toArray).heap[j]? = w.heap[j]? := fun j hj => by
      show (w.heap.modify blk _)[j]? = _
      rw [Array.getElem?_modify, if_neg (fun e => hj e.symm)]
    refine ⟨_, rfl, by rw [hlen], ⟨by omega, hm, .inr ⟨blk, rfl, hb, by omega, fun j hj => ?_⟩⟩, hzz, ?_, fun j hj => ?_⟩
    · have hj' : j < (left.take i ++ left.drop (i + 1)).length := by simpa using hj
      have h2 := hH2 j (by rw [List.size_toArray, List.length_append]; omega)
      have e : (left.take i ++ left.drop (i + 1) ++ List.replicate (i + 1 - i) []).toArray[j]! = (left.take i ++ left.drop (i + 1)).toArray[j]! := by
        rw [getElem!_pos _ j (by rw [List.size_toArray, List.length_append]; omega), getElem!_pos _ j (by simpa using hj')]
        rw [List.getElem_toArray, List.getElem_toArray, List.getElem_append_left hj']
      rw [e] at h2
      exact h2
    · refine ⟨rfl, rfl, rfl, by rw [hzz]; exact Nat.le_refl _, fun j hj => hoth j ?_⟩
      omega
    · exact hoth j (fun e => hj (by rw [e]))
end Go.Proofs.Ytljfknneijmfoaa
namespace Go.Proofs.Ytljfknneijmfoaa
open Go.RowKit Go.Maps Go.WideMaps Go.Lib
open Go.Proofs.YtljfknneijmfoaaW.PrintWords (q_of_own q_slice q_cells add_at)

theorem keep7 {w w' : World} {base : Nat} {v : Value} {n : Nat} {xs : List Value} {o : Obj} (h : w.ownsRow base 9 1 v n xs) (hg : (w.alloc o).grownBy w' v.ownBlock) (hb : base ≤ w.heap.size) : ∀ j, j < base → w'.heap[j]? = w.heap[j]? := fun j hj => by
  rw [hg.block j (by rw [World.size_alloc]; omega) (fun e => by have := (h.lt j e.symm).1; omega), Below.heap_alloc _ _ _ (by omega)]

def lenOf : Value → Nat
  | .slice _ n _ => n
  | _ => 0

set_option maxRecDepth 100000 in
set_option maxHeartbeats 4000000 in
theorem order46 (A : Option Addr) (cap : Nat) (es : List (S × Int × S)) (w : World) (hE : EdgeRow w A es) (hn : es.length ≤ 100000) (hs : ∀ e ∈ es, e.1.length ≤ 100000 ∧ e.2.2.length ≤ 100000) :
    Calls Try.prog 46 #[.slice A es.length cap] w fun e w' => ∃ A' c' out xs, e = .returned (.slice A' out.length c') ∧ out.length ≤ c' ∧ out.length ≤ 200000 ∧ StrRow w' A' out ∧ IsNodes (ends es) xs ∧ Ord (ends es) xs out ∧ Below w.heap.size w w' := by
  obtain ⟨i9, hi9, hz90, hz91, hz92⟩ := info_parts info9
  have hEl : (ends es).length ≤ 100000 := by unfold ends; rw [List.length_map]; exact hn
  have hEs : ∀ e ∈ ends es, e.1.length ≤ 100000 ∧ e.2.length ≤ 100000 := by
    intro e he
    unfold ends at he
    obtain ⟨x, hx, rfl⟩ := List.mem_map.1 he
    exact hs x hx
  have H57 := Lib.hid (netOf57 A cap es w hE hn hs)
  obtain ⟨E, hEe⟩ : ∃ E, E = ends es := ⟨_, rfl⟩
  rw [← hEe] at H57 hEl hEs ⊢
  have HES := Lib.hid hEs
  clear hE hn hs hEs hEe
  go_enter Try.func46, Try.ntmps46
  go_upto_region 2 with (go_at_call 57; refine H57.out.mono ?_; rintro ee w1 ⟨rfl, hN1, hB1⟩; have HN1 := Lib.hid hN1; have HB1 := Lib.hid hB1; clear hN1 hB1)
  obtain ⟨v0, xs, bx, n0, f0, hp, hmx, hox, hX, hxl, _⟩ := HN1.out
  have hpl := (Array.getElem?_eq_some_iff.1 hp).1
  obtain ⟨Ax, cx, rfl⟩ := own_form hox
  have hXS : ∀ x ∈ xs, x.length ≤ 100000 := fun x hx => by
    obtain ⟨y, hy | hy⟩ := (hX.2 x).1 hx
    · exact (HES.out _ hy).1
    · exact (HES.out _ hy).2
  have H63 := Lib.hid (ways63 (w.heap.size + 2) E xs w1 HN1.out hX hEl HES.out)
  have HP := Lib.hid hp
  have HOX := Lib.hid hox
  have HX := Lib.hid hX
  have HXS := Lib.hid hXS
  clear hp hmx hox hX hXS H57
  go_upto_region 3 with (go_at_call 63; refine H63.out.mono ?_; rintro ee w2 ⟨rfl, hW2, hB2⟩; have HW2 := Lib.hid hW2; have HB2 := Lib.hid hB2; clear hW2 hB2)
  obtain ⟨w3, hw3⟩ : ∃ w3, w3 = w2.alloc (.cells #[.map (some w1.heap.size)] 96) := ⟨_, rfl⟩
  rw [← hw3]
  have hb3 : Below w2.heap.size w2 w3 := by rw [hw3]; exact (Below.refl _ w2).alloc (Nat.le_refl _) _
  have hz3 : w3.heap.size = w2.heap.size + 1 := by rw [hw3]; exact World.size_alloc _ _
  have hc3 : w3.cell? ⟨w2.heap.size, 0, none⟩ = some (.map (some w1.heap.size)) := by rw [hw3]; exact cell_of_block (j := 0) (heap_alloc_new w2 _) rfl
  have HC3 := Lib.hid hc3
  have z2 := HB2.out.size
  have HP3 := Lib.hid ((hb3.block _ (by omega)).trans ((HB2.out.block (w.heap.size + 2) hpl).trans HP.out))
  have HOX3 := Lib.hid (own_below (own_below HOX.out HB2.out (Nat.le_refl _)) hb3 (Nat.le_refl _))
  have HW3 := Lib.hid (HW2.out.below hb3 (Nat.le_refl _))
  have HB3 := Lib.hid (HB1.out.trans ((HB2.out.trans (hb3.mono z2)).mono HB1.out.size))
  have H72 := Lib.hid (clone72 HOX3.out (by omega))
  have k0 := cell_of_block (j := 0) HP3.out rfl
  clear hw3 hc3 hb3 HP HB2 H63 HW2 HN1 HOX
  go_upto_region 4 with (go_at_call 72; refine H72.out.mono ?_; rintro ee w4 ⟨A4, c4, rfl, hL4, hB4⟩; have HL4 := Lib.hid hL4; have HB4 := Lib.hid hB4; clear hL4 hB4)
  obtain ⟨w5, hw5⟩ : ∃ w5, w5 = w4.alloc (.cells #[.slice A4 xs.length c4] 22) := ⟨_, rfl⟩
  rw [← hw5]
  have hb5 : Below w4.heap.size w4 w5 := by rw [hw5]; exact (Below.refl _ w4).alloc (Nat.le_refl _) _
  have hz5 : w5.heap.size = w4.heap.size + 1 := by rw [hw5]; exact World.size_alloc _ _
  have hc5 : w5.heap[w4.heap.size]? = some (.cells #[.slice A4 xs.length c4] 22) := by rw [hw5]; exact heap_alloc_new w4 _
  have HC5 := Lib.hid hc5
  have z4 := HB4.out.size
  have HB5 := Lib.hid (HB4.out.trans (hb5.mono z4))
  have HL5 : Hid (LeftRow w5 w3.heap.size A4 xs c4) := Lib.hid (HL4.out.kept (by omega) (fun b _ hb => hb5.block b hb))
  have hA4 : ∀ b, A4 = some ⟨b, 0, none⟩ → b < w4.heap.size ∨ xs = [] := fun b hb => by
    rcases HL4.out.2.2 with h | ⟨blk, e, _, h2, _⟩
    · exact .inr h
    · rw [e] at hb; injection hb with hb; injection hb with hb _ _; exact .inl (by omega)
  have HA4 := Lib.hid hA4
  clear hw5 hc5 hb5 H72 HL4 HB4 k0 hA4
  go_loopw [2, 6] (fun s2 _ wr => ∃ (left out : List S) (A2 : Option Addr) (c2 : Nat), s2 = .slice A2 out.length c2 ∧ wr.ownsRow w5.heap.size 9 1 (.slice A2 out.length c2) out.length (out.map encStr) ∧
    wr.heap[w4.heap.size]? = some (.cells #[.slice A4 left.length c4] 22) ∧ LeftRow wr w3.heap.size A4 left c4 ∧ SS left ∧ (∀ x ∈ left, x ∈ xs) ∧ out.length + left.length = xs.length ∧ (∀ rest, Ord E left rest → Ord E xs (out ++ rest)) ∧
    Below w3.heap.size w3 wr ∧ w5.heap.size ≤ wr.heap.size) (fun s2 _ _ => xs.length - lenOf s2)
  case atStart =>
    exact ⟨xs, [], none, 0, rfl, by simpa using World.ownsRow_nil w5 w5.heap.size 9 1, HC5.out, HL5.out, HX.out.1, fun x hx => hx, by simp, fun rest h => h, HB5.out, Nat.le_refl _⟩
  case round =>
    obtain ⟨left, out, A2, c2, rfl, hown, hcl, hL, hSS, hsub, hlen, hOrd, hB, hz⟩ := hrel
    have HOWN := Lib.hid hown
    have HCL := Lib.hid hcl
    have HL := Lib.hid hL
    have HSS := Lib.hid hSS
    have HSUB := Lib.hid hsub
    have HORD := Lib.hid hOrd
    have HB := Lib.hid hB
    have k5 := cell_of_block (j := 0) hcl rfl
    clear hown hcl hL hSS hsub hOrd hB
    by_cases hne : left = []
    · subst hne
      go_wp2
      go_ret
      obtain ⟨_, _, he, hle⟩ := q_slice (q_of_own HOWN.out)
      injection he with _ _ he
      subst he
      have ho := HORD.out [] .nil
      rw [List.append_nil] at ho
      exact ⟨A2, c2, out, xs, rfl, hle, by simp at hlen; omega, row_q (q_of_own HOWN.out), HX.out, ho, HB3.out.trans (HB.out.mono HB3.out.size)⟩
    · have hl0 : 0 < left.length := List.length_pos_iff.2 hne
      have HNE := Lib.hid hne
      clear hne
      obtain ⟨blk, hA4, hb1, hb2, hb3⟩ : ∃ blk, A4 = some ⟨blk, 0, none⟩ ∧ w3.heap.size ≤ blk ∧ blk < w4.heap.size ∧ True := by
        rcases HL.out.2.2 with h | ⟨blk, e, h1, _, _⟩
        · exact absurd h HNE.out
        · rcases HA4.out blk e with h | h
          · exact ⟨blk, e, h1, h, trivial⟩
          · have : xs.length = 0 := by rw [h]; rfl
            omega
      subst hA4
      have H73 := Lib.hid (index73 74 #[.pointer (some ⟨w4.heap.size, 0, none⟩), .pointer (some ⟨w2.heap.size, 0, none⟩)] enters74 (some ⟨blk, 0, none⟩) c4 left (fun s => !(left.any (hind E s))) wr (fun W x hx hBW => by
        have hBW3 := HB.out.trans (hBW.mono HB.out.size)
        have hz3 := hz3
        have c3' : wr.cell? ⟨w2.heap.size, 0, none⟩ = some (.map (some w1.heap.size)) := (HB.out.cell (by show w2.heap.size < _; omega)).trans HC3.out
        exact (free74 (left := left) (HW3.out.below hBW3 (Nat.le_refl _)) HSUB.out HXS.out x (HSUB.out x hx) _ _ ((hBW.cell (World.block_lt_of_cell? _ _ k5)).trans k5) ((hBW.cell (World.block_lt_of_cell? _ _ c3')).trans c3') (HL.out.row.below hBW (Nat.le_refl _)) (by omega)).mono fun e w' ⟨h1, h2⟩ => ⟨h1, hBW.trans (h2.mono hBW.size)⟩) HL.out.row (by omega))
      have hle2 : out.length ≤ c2 := by
        obtain ⟨_, _, he, hle⟩ := q_slice (q_of_own HOWN.out)
        injection he with _ _ he
        omega
      go_wp2_with (first
        | (go_at_call 73; refine H73.out.mono ?_; rintro ee w6 ⟨r, rfl, hF, hB6⟩; obtain ⟨i, x, rfl, hi, hx, hstep⟩ := ord_step HSS.out HNE.out hF; have HX6 := Lib.hid hx; have HST := Lib.hid hstep; have HB6 := Lib.hid hB6; have HL6 := Lib.hid (HL.out.kept hB6.size (fun b _ hb => hB6.block b hb)); have HBL6 := Lib.hid ((hB6.block _ (by omega)).trans HCL.out); have HO6 := Lib.hid (own_below HOWN.out hB6 (Nat.le_refl _)); have k6 := (hB6.cell (World.block_lt_of_cell? _ _ k5)).trans k5; obtain ⟨_, ea, hcx0⟩ := HL6.out.row i x hx; cases ea; have hcx : w6.cell? ⟨blk, i, none⟩ = some (.string (U x)) := (by rw [add_at, Nat.zero_add] at hcx0; exact hcx0); have z6 := hB6.size; have i1 : (0 : Int) ≤ (i : Int) := (by omega); have i2 : (i : Int) < (left.length : Int) := (by omega); have hib : i ≤ 1000000 := (by omega); clear k5 hF hB6 hx hstep hcx0)
        | (at_builtin; refine wpList_append_lies _ (by rfl) _ _ _ (by rfl) w5.heap.size 9 i9 _ 1 16 Try.underlying22 hi9 hz90 hz91 hz92 rfl (by omega) (.slice A2 out.length c2) _ _ (by rfl) (HO6.out.alloc _) ⟨w6.heap.size, 0, none⟩ 1 1 [.string (U x)] (by rfl) (by rfl) (World.news_of_block (cs := #[.string (U x)]) (t := 9) (fr := (0, 0)) (heap_alloc_new w6 _)) (by simp [Value.oneCell']) (by omega) (by unfold maxLen; omega) (by omega) (by simp; omega) (w6.heap.size + 1) (by simp) ?_; intro gg cap' w7 hown7 hgrow7 hat7 hlt7; have HO7 := Lib.hid hown7; have HG7 := Lib.hid hgrow7; have HK7 := Lib.hid (keep7 HO6.out hgrow7 (by omega)); have z7 := HG7.out.size; have k7 := (World.cell?_of_block (a := ⟨w4.heap.size, 0, none⟩) (HK7.out w4.heap.size (by omega))).trans k6; have HL7 := Lib.hid (HL6.out.kept (by rw [World.size_alloc] at z7; omega) (fun b hb _ => HK7.out b (by injection hb with hb; injection hb with hb _ _; omega))); clear hown7 hgrow7 hat7 hlt7 k6)
        | (go_at_call 77; refine (delete77 HL7.out hi).mono ?_; rintro ee w8 ⟨l', hl', rfl, hL8, hz8, hB8, hk8⟩; have HLP := Lib.hid hl'; clear hl'; have HL8 := Lib.hid hL8; have HB8 := Lib.hid hB8; have HK8 := Lib.hid hk8; have hn8 : w8.heap[w4.heap.size]? = some (.cells #[.slice (some ⟨blk, 0, none⟩) left.length c4] 22) := (by rw [hk8 _ (fun e => by injection e with e; injection e with e _ _; omega), HK7.out _ (by omega)]; exact HBL6.out); have k8 := cell_of_block (j := 0) hn8 rfl; have f8 := frozen_of_block (j := 0) hn8; have HN8 := Lib.hid hn8; clear hL8 hB8 hk8 hn8 k7))
      go_roundw
      have hlp := HLP.out
      have hl' : l'.length = left.length - 1 := by
        rw [hlp, List.length_append, List.length_take, List.length_drop]
        omega
      have z7' := z7
      rw [World.size_alloc] at z7'
      have hgg : w5.heap.size ≤ gg ∧ gg < w7.heap.size := HO7.out.lt gg rfl
      have ho8 : w8.ownsRow w5.heap.size 9 1 (.slice (some ⟨gg, 0, none⟩) (out.length + 1) cap') (out.length + 1) (out.map encStr ++ [.string (U x)]) := own_block HO7.out (fun b hb => HK8.out b (fun e => by
        injection e with e; injection e with e _ _
        have := (HO7.out.lt b hb).1
        omega))
      case measure => simp [lenOf]; omega
      case rel =>
        refine ⟨l', out ++ [x], some ⟨gg, 0, none⟩, cap', by simp, ?_, ?_, ?_, by rw [hlp]; exact cut_ss HSS.out, ?_, by simp; omega, ?_, ?_, ?_⟩
        · have := ownsRow_setCell_below (a := ⟨w4.heap.size, 0, none⟩) ho8 (by show w4.heap.size < _; omega) (.slice (some ⟨blk, 0, none⟩) l'.length c4)
          simpa [enc_U] using this
        · have := HN8.out
          simp only [World.setCell, Array.getElem?_modify]
          rw [if_pos trivial, this]
          rfl
        · refine HL8.out.kept (by simp [World.setCell]) fun b hb _ => Below.heap_setCell _ _ _ _ ?_
          intro e
          injection hb with hb
          injection hb with hb _ _
          have : b = w4.heap.size := e
          omega
        · intro y hy
          rw [hlp] at hy
          rcases List.mem_append.1 hy with h | h
          · exact HSUB.out y (List.mem_of_mem_take h)
          · exact HSUB.out y (List.mem_of_mem_drop h)
        · intro rest hr
          rw [List.append_assoc]
          rw [hlp] at hr
          exact HORD.out _ (HST.out _ hr)
        · have b6 := HB.out.trans (HB6.out.mono HB.out.size)
          have b7 := (b6.alloc b6.size (.cells #[.string (U x)] 9)).grown HG7.out (by rw [World.size_alloc]; have := b6.size; omega) (fun q hq => by have := (HO6.out.lt q hq).1; omega)
          exact (b7.trans HB8.out).setCell (by show w3.heap.size ≤ w4.heap.size; exact z4) _
        · simp [World.setCell]
          omega
end Go.Proofs.Ytljfknneijmfoaa
namespace Go.Proofs.Ytljfknneijmfoaa
open Go.RowKit Go.Maps Go.WideMaps Go.Lib
open Go.Proofs.YtljfknneijmfoaaW.PrintWords (q_of_own q_slice q_cells add_at)

theorem next_len {E : Es} {s : S} {ys : List S} (h : IsNext E s ys) : ys.length ≤ E.length := by
  have := nodup_le ys (E.map (·.2)) h.1.nodup fun x hx => List.mem_map.2 ⟨_, (h.2 x).1 hx, rfl⟩
  rwa [List.length_map] at this

set_option maxRecDepth 100000 in
set_option maxHeartbeats 4000000 in
/-- graph.Dot: the edges as a text. -/
theorem dot48 (A : Option Addr) (cap : Nat) (es : List (S × Int × S)) (w : World) (hE : EdgeRow w A es) (hn : es.length ≤ 1000) (hs : ∀ e ∈ es, e.1.length ≤ 1000 ∧ e.2.2.length ≤ 1000) :
    Calls Try.prog 48 #[.slice A es.length cap] w fun e w' => ∃ x, e = .returned (.string (U x)) ∧ IsDot (ends es) x ∧ x.length ≤ 10000000000000 ∧ Below w.heap.size w w' := by
  obtain ⟨w0, hw0⟩ : ∃ w0, w0 = w.alloc (.cells #[.pointer none, .slice none 0 0] 108) := ⟨_, rfl⟩
  have h0 : Lib.IsBuilderF 108 5 w.heap.size w.heap.size [] w0 := by rw [hw0]; exact Lib.IsBuilderF.of (Lib.fresh_isBuilder 108 5 w)
  have b0 : Below w.heap.size w w0 := by rw [hw0]; exact (Below.refl _ w).alloc (Nat.le_refl _) _
  have hEl : (ends es).length ≤ 1000 := by unfold ends; rw [List.length_map]; exact hn
  have hEs : ∀ e ∈ ends es, e.1.length ≤ 1000 ∧ e.2.length ≤ 1000 := by
    intro e he
    unfold ends at he
    obtain ⟨x, hx, rfl⟩ := List.mem_map.1 he
    exact hs x hx
  have H57 := Lib.hid (netOf57 A cap es w0 (hE.below b0 (Nat.le_refl _)) (by omega) (fun e he => by have := hs e he; omega))
  obtain ⟨E, hEe⟩ : ∃ E, E = ends es := ⟨_, rfl⟩
  rw [← hEe] at H57 hEl hEs ⊢
  have HES := Lib.hid hEs
  clear hE hn hs hEs hEe
  go_enter Try.func48, Try.ntmps48
  go_upto_region 2 with (fail)
  rw [← hw0]
  clear hw0
  go_upto_region 3 with (go_at_call 57; refine H57.out.mono ?_; rintro ee w1 ⟨rfl, hN1, hB1⟩; have HN1 := Lib.hid hN1; have HB1 := Lib.hid hB1; clear hN1 hB1)
  obtain ⟨v0, xs, bx, n0, f0, hp, hmx, hox, hX, hxl, hnx⟩ := HN1.out
  obtain ⟨Ax, cx, rfl⟩ := own_form hox
  obtain ⟨nx, hnx⟩ : ∃ nx : S → List S, ∀ s, IsNext E s (nx s) ∧ w1.ownsRow 0 9 1 ((f0 (B (U s))).getD (.slice none 0 0)) (nx s).length ((nx s).map encStr) := ⟨fun s => Classical.choose (hnx s), fun s => ⟨(Classical.choose_spec (hnx s)).1, (Classical.choose_spec (hnx s)).2.2⟩⟩
  have hXS : ∀ x ∈ xs, x.length ≤ 1000 := fun x hx => by
    obtain ⟨y, hy | hy⟩ := (hX.2 x).1 hx
    · exact (HES.out _ hy).1
    · exact (HES.out _ hy).2
  have h1 : Lib.IsBuilderF 108 5 w.heap.size w.heap.size (Lib.byteCells []) w1 := builder_keep h0 (fun j hj => HB1.out.block j hj)
  have hbb := builder_block h1
  have z1 := HB1.out.size
  have z0 := b0.size
  have HH1 := Lib.hid h1
  have HBB := Lib.hid hbb
  have HP := Lib.hid hp
  have HMX := Lib.hid hmx
  have HOX := Lib.hid hox
  have HX := Lib.hid hX
  have HXS := Lib.hid hXS
  have HNX := Lib.hid hnx
  have hpl := (Array.getElem?_eq_some_iff.1 hp).1
  clear hp hmx hox hX hnx h1 hbb hXS H57 h0
  go_upto_region 4 with (go_at_call 78; refine (Try.Builder_WriteString w.heap.size w.heap.size _ _ w1 HH1.out (by simp [Lib.byteCells]; try decide) (by omega)).mono ?_; rintro ee w2 ⟨rfl, hh2, hB2, hO2⟩; have HO2 := Lib.hid hO2; have HH2 := Lib.hid hh2; have HB2 := Lib.hid hB2; clear hh2 hB2 hO2)
  have HBW1 := Lib.hid (b0.trans (HB1.out.mono z0))
  have k0 := cell_of_block (j := 0) (HO2.out _ _ HP.out (fun e => by have := Option.some.inj e; omega) (fun c fz e => by injection e with _ e _; cases e)) rfl
  have HH2' : Hid (Lib.IsBuilderF 108 5 w.heap.size w.heap.size (Lib.byteCells headB) w2) := Lib.hid (Or.inr (by have h := HH2.out; rw [builder_bytes] at h; exact h))
  clear HH2
  go_wp2
  clear k0
  go_loopw [17] (fun i wr => ∃ (k : Nat) (acc : S), k ≤ xs.length ∧ i = .int .i64 k ∧ acc = headB ++ (xs.take k).flatMap (fun s => (nx s).flatMap (lineB s)) ∧ acc.length ≤ room k 0 ∧ Lib.IsBuilderF 108 5 w.heap.size w.heap.size (Lib.byteCells acc) wr ∧ Lib.OthersKept 5 (some w.heap.size) w1 wr ∧ Below w.heap.size w wr) (fun i _ => xs.length - (intOf i).toNat)
  case atStart =>
    exact ⟨0, headB, Nat.zero_le _, rfl, by simp, by decide, HH2'.out, HO2.out, HBW1.out.trans HB2.out⟩
  case round =>
    obtain ⟨k, acc, hk, rfl, hacc, hal, hbd, hO, hB⟩ := hrel
    have HACC := Lib.hid hacc
    have HBD := Lib.hid hbd
    have HO := Lib.hid hO
    have HB := Lib.hid hB
    have HAL := Lib.hid hal
    clear hacc hbd hO hB hal
    have hpw := HO.out _ _ HP.out (fun e => by have := Option.some.inj e; omega) (fun c fz e => by injection e with _ e _; cases e)
    by_cases hlt : k < xs.length
    · obtain ⟨s, hsx⟩ : ∃ s, xs[k]? = some s := ⟨_, List.getElem?_eq_getElem hlt⟩
      obtain ⟨ax, rfl, hcs⟩ := row_q (q_of_own (own_others HO.out HBB.out HOX.out)) k s hsx
      have hsl := HXS.out s (List.mem_of_getElem? hsx)
      have hsm : (U s).size ≤ maxLen := by rw [size_U]; unfold maxLen; omega
      obtain ⟨hnxs, hon⟩ := HNX.out s
      obtain ⟨ys, hys⟩ : ∃ ys, ys = nx s := ⟨_, rfl⟩
      rw [← hys] at hnxs hon
      obtain ⟨A2, c2, hv2⟩ := own_form hon
      rw [hv2] at hon
      have hyl := Nat.le_trans (next_len hnxs) hEl
      have HON := Lib.hid hon
      have HV2 : Hid ((f0 (B (U s))).getD (.slice none 0 0) = .slice A2 ys.length c2) := Lib.hid hv2
      have HMW := Lib.hid (hmap_others HO.out HBB.out HMX.out)
      have HSM := Lib.hid hsm
      have HSX := Lib.hid hsx
      have HYS := Lib.hid hys
      have HNXS := Lib.hid hnxs
      have hkb : k ≤ 1000000 := by omega
      have k1 := cell_of_block (j := 1) hpw rfl
      clear hnxs hon hv2 hsm hsx hys hpw
      obtain ⟨wr0, rfl⟩ : ∃ wr0 : World, wr0 = wr := ⟨_, rfl⟩
      go_wp2_with (at_lookup; refine wpList_lookup_h _ rfl _ _ 88 rfl 22 Try.underlying88 (.slice none 0 0) (zero22 _) bx n0 f0 rfl HMW.out (U s) rfl HSM.out (.slice A2 ys.length c2) HV2.out ?_)
      clear k1
      go_loopw [28] (fun i wi => ∃ (j : Nat) (acc2 : S), j ≤ ys.length ∧ i = .int .i64 j ∧ acc2 = acc ++ (ys.take j).flatMap (lineB s) ∧ acc2.length ≤ room k j ∧ Lib.IsBuilderF 108 5 w.heap.size w.heap.size (Lib.byteCells acc2) wi ∧ Lib.OthersKept 5 (some w.heap.size) w1 wi ∧ Below w.heap.size w wi) (fun i _ => ys.length - (intOf i).toNat)
      case atStart => exact ⟨0, acc, Nat.zero_le _, rfl, by simp, HAL.out, HBD.out, HO.out, HB.out⟩
      case round =>
        obtain ⟨j, acc2, hj, rfl, hacc2, hal2, hbd2, hO2', hB2'⟩ := hrel
        have HACC2 := Lib.hid hacc2
        have HBD2 := Lib.hid hbd2
        have HOI := Lib.hid hO2'
        have HBI := Lib.hid hB2'
        have HAL2 := Lib.hid hal2
        have hjb : j ≤ 1000000 := by omega
        have hroom := room_le hal2 (by omega) (by omega)
        clear hacc2 hbd2 hO2' hB2' hal2
        by_cases hjt : j < ys.length
        · obtain ⟨t, htx⟩ : ∃ t, ys[j]? = some t := ⟨_, List.getElem?_eq_getElem hjt⟩
          obtain ⟨ay, rfl, hct⟩ := row_q (q_of_own (own_others HOI.out HBB.out HON.out)) j t htx
          have htl : t.length ≤ 1000 := (HES.out _ ((HNXS.out.2 t).1 (List.mem_of_getElem? htx))).2
          have HTX := Lib.hid htx
          have hs1 : (U s).size ≤ 1000 := by rw [size_U]; exact hsl
          have ht1 : (U t).size ≤ 1000 := by rw [size_U]; exact htl
          have hlb : (((((⟨#[34]⟩ : ByteArray) ++ U s) ++ (⟨#[34, 32, 45, 62, 32, 34]⟩ : ByteArray)) ++ U t) ++ (⟨#[34, 59, 10]⟩ : ByteArray)).size = s.length + t.length + 10 := by
            rw [← size_B, line_bytes, lineB_len]
          have HLB := Lib.hid hlb
          clear htx hlb
          go_wp2_with (go_at_call 78; refine (Try.Builder_WriteString w.heap.size w.heap.size _ _ wr HBD2.out (by rw [HLB.out]; simp [Lib.byteCells]; omega) (by have := HBI.out.size; omega)).mono ?_; rintro ee w3 ⟨rfl, hh3, hB3, hO3⟩; have HH3 : Hid (Lib.IsBuilderF 108 5 w.heap.size w.heap.size (Lib.byteCells (acc2 ++ lineB s t)) w3) := Lib.hid (Or.inr (by have h := hh3; rw [builder_bytes] at h; rw [← line_bytes s t]; exact h)); have HB3 := Lib.hid hB3; have HO3 := Lib.hid hO3; clear hh3 hB3 hO3)
          go_roundw
          case measure => simp [intOf]; omega
          case rel =>
            refine ⟨j + 1, acc2 ++ lineB s t, hjt, by go_num, ?_, ?_, HH3.out, HOI.out.trans HO3.out, HBI.out.trans HB3.out⟩
            · rw [HACC2.out, List.take_add_one, HTX.out]
              simp
            · rw [List.length_append]
              exact room_next HAL2.out (by rw [lineB_len]; omega)
        · have hje : j = ys.length := by omega
          subst hje
          go_wp2
          go_roundw
          case measure => simp [intOf]; omega
          case rel =>
            refine ⟨k + 1, acc2, hlt, by go_num, ?_, room_row HAL2.out (by omega), HBD2.out, HOI.out, HBI.out⟩
            rw [HACC2.out, HACC.out, List.take_length, List.take_add_one, HSX.out, HYS.out]
            simp
    · have hke : k = xs.length := by omega
      subst hke
      have hroom := room_le HAL.out (by omega) (Nat.zero_le _)
      clear hpw
      go_wp2_with (first
        | (go_at_call 78; refine (Try.Builder_WriteString w.heap.size w.heap.size _ _ wr HBD.out (by show (Lib.byteCells acc).length + 2 ≤ _; simp [Lib.byteCells]; omega) (by have := HB.out.size; omega)).mono ?_; rintro ee w3 ⟨rfl, hh3, hB3, _⟩; have HH3 : Hid (Lib.IsBuilderF 108 5 w.heap.size w.heap.size (Lib.byteCells (acc ++ footB)) w3) := Lib.hid (Or.inr (by have h := hh3; rw [builder_bytes] at h; exact h)); have HB3 := Lib.hid hB3; have zz3 := hB3.size; clear hh3 hB3)
        | (go_at_call 79; refine (Try.Builder_String_any w.heap.size w.heap.size _ _ HH3.out (by have := HB.out.size; omega)).mono ?_; rintro ee w4 ⟨rfl, _, hB4, _⟩; have HB4 := Lib.hid hB4; clear hB4))
      go_ret
      have hacc := HACC.out
      rw [List.take_length] at hacc
      refine ⟨acc ++ footB, rfl, ?_, by simp [footB]; omega, HB.out.trans (HB3.out.trans HB4.out)⟩
      rw [hacc]
      exact dot_by_nodes HX.out fun s => (HNX.out s).1
end Go.Proofs.Ytljfknneijmfoaa
