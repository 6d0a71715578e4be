import Derived.Test.YtljfknneijmfoaaWays
import Derived.Shelf.Abstract
namespace Go.Proofs.Ytljfknneijmfoaa
open Go.RowKit Go.Maps Go.WideMaps Go.Lib
open Go.Proofs.YtljfknneijmfoaaW.PrintWords (q_of_own q_slice q_cells add_at)

/-- t hinders s: s comes to it, and it does not come to s. -/
noncomputable def hind (E : Es) (s t : S) : Bool := @decide (t ≠ s ∧ Lead E s t ∧ ¬ Lead E t s) (Classical.propDecidable _)

theorem hind_iff {E : Es} {s t : S} : hind E s t = true ↔ t ≠ s ∧ Lead E s t ∧ ¬ Lead E t s := by unfold hind; exact @decide_eq_true_iff _ (Classical.propDecidable _)

theorem free_iff {E : Es} {left : List S} {s : S} : left.any (hind E s) = false ↔ Free E left s := by
  rw [List.any_eq_false]
  constructor
  · intro h t ht hne hc
    have h1 := h t ht
    rw [hind_iff] at h1
    apply Classical.byContradiction
    intro hn
    exact h1 ⟨hne, conn_lead hc (fun e => hne e.symm), fun hl => hn (lead_conn hl)⟩
  · intro h t ht hh
    obtain ⟨h1, h2, h3⟩ := hind_iff.1 hh
    exact h3 (conn_lead (h t ht h1 (lead_conn h2)) h1)

set_option maxRecDepth 100000 in
/-- The inner closure: does t hinder s? -/
theorem hinds76 {w : World} {b base N : Nat} {E : Es} {nodes : List S} (h : WaysAt w b base E N nodes) (s t : S) (hs : s ∈ nodes) (ht : t ∈ nodes) (hsl : s.length ≤ 100000) (htl : t.length ≤ 100000) (p q : Addr)
    (hp : w.cell? p = some (.string (U s))) (hq : w.cell? q = some (.map (some b))) :
    Calls Try.prog 76 #[.string (U t), .pointer (some p), .pointer (some q)] w fun e w' => e = .returned (.bool (hind E s t)) ∧ Below w.heap.size w w' := by
  obtain ⟨v, hv⟩ : ∃ v, v = hind E s t := ⟨_, rfl⟩
  rw [← hv]
  by_cases hts : t = s
  · have hv0 : v = false := by rw [hv, ← Bool.not_eq_true, hind_iff]; exact fun h => h.1 hts
    have hb := beq_U_true hts
    subst hv0
    clear hts hv
    go_enter Try.func76, Try.ntmps76
    go_wp2
    go_ret
    exact ⟨rfl, Below.refl _ _⟩
  · have hb := beq_U_false hts
    by_cases h1 : Lead E s t
    · have H1 := Lib.hid (leads64 h s t hs hsl htl true ⟨fun _ => h1, fun _ => rfl⟩)
      by_cases h2 : Lead E t s
      · have H2 := Lib.hid (leads64 h t s ht htl hsl true ⟨fun _ => h2, fun _ => rfl⟩)
        have hv0 : v = false := by rw [hv, ← Bool.not_eq_true, hind_iff]; exact fun h => h.2.2 h2
        subst hv0
        clear hts hv h1 h2 h hs ht
        go_enter Try.func76, Try.ntmps76
        go_wp2_with (first
          | (go_at_call 64; (with_reducible refine (H1.out.mono ?_)); rintro ee w1 ⟨rfl, rfl⟩)
          | (go_at_call 64; (with_reducible refine (H2.out.mono ?_)); rintro ee w2 ⟨rfl, rfl⟩))
        go_ret
        exact ⟨rfl, Below.refl _ _⟩
      · have H2 := Lib.hid (leads64 h t s ht htl hsl false ⟨fun h => (by cases h), fun h => absurd h h2⟩)
        have hv0 : v = true := by rw [hv, hind_iff]; exact ⟨hts, h1, h2⟩
        subst hv0
        clear hts hv h1 h2 h hs ht
        go_enter Try.func76, Try.ntmps76
        go_wp2_with (first
          | (go_at_call 64; (with_reducible refine (H1.out.mono ?_)); rintro ee w1 ⟨rfl, rfl⟩)
          | (go_at_call 64; (with_reducible refine (H2.out.mono ?_)); rintro ee w2 ⟨rfl, rfl⟩))
        go_ret
        exact ⟨rfl, Below.refl _ _⟩
    · have H1 := Lib.hid (leads64 h s t hs hsl htl false ⟨fun h => (by cases h), fun h => absurd h h1⟩)
      have hv0 : v = false := by rw [hv, ← Bool.not_eq_true, hind_iff]; exact fun h => h1 h.2.1
      subst hv0
      clear hts hv h1 h hs ht
      go_enter Try.func76, Try.ntmps76
      go_wp2_with (go_at_call 64; (with_reducible refine (H1.out.mono ?_)); rintro ee w1 ⟨rfl, rfl⟩)
      go_ret
      exact ⟨rfl, Below.refl _ _⟩

/-- What is asked of a predicate that is handed over. -/
def PredOn (g : Nat) (lb : Array Value) (p : S → Bool) (zs : List S) (w : World) : Prop :=
  ∀ (W : World) (x : S), x ∈ zs → Below w.heap.size w W → Calls Try.prog g (#[.string (U x)] ++ lb) W fun e w' => e = .returned (.bool (p x)) ∧ Below w.heap.size w w'

/-- The first place of which a predicate holds. -/
def FirstAt (p : S → Bool) (zs : List S) (r : Int) : Prop :=
  (∃ (i : Nat) (x : S), zs[i]? = some x ∧ r = i ∧ p x = true ∧ ∀ (j : Nat) (y : S), j < i → zs[j]? = some y → p y = false) ∨ (r = -1 ∧ ∀ x, x ∈ zs → p x = false)

set_option maxRecDepth 100000 in
set_option maxHeartbeats 2000000 in
theorem index73 (g : Nat) (lb : Array Value) (eg : ∀ args w, (callFunc g args).run Try.prog w = .ok (.enter g args) w) (A : Option Addr) (c : Nat) (zs : List S) (p : S → Bool) (w : World) (hp : PredOn g lb p zs w) (hr : StrRow w A zs) (hn : zs.length ≤ 1000000) :
    Calls Try.prog 73 #[.slice A zs.length c, .func (.func g) #[] lb] w fun e w' => ∃ r, e = .returned (.int .i64 r) ∧ FirstAt p zs r ∧ Below w.heap.size w w' := by
  have HP := Lib.hid hp
  have HR := Lib.hid hr
  clear hp hr
  go_enter Try.func73, Try.ntmps73
  go_wp2
  go_loopw [5, 8] (fun _ i wr => ∃ k : Nat, k ≤ zs.length ∧ i = .int .i64 k ∧ (∀ (j : Nat) (y : S), j < k → zs[j]? = some y → p y = false) ∧ Below w.heap.size w wr) (fun _ i _ => zs.length - (intOf i).toNat)
  case atStart => exact ⟨0, Nat.zero_le _, rfl, fun j y h => absurd h (Nat.not_lt_zero _), Below.refl _ _⟩
  case round =>
    obtain ⟨k, hk, rfl, hall, hB⟩ := hrel
    have HALL := Lib.hid hall
    have HB := Lib.hid hB
    clear hall hB
    by_cases hlt : k < zs.length
    · obtain ⟨x, hx⟩ : ∃ x, zs[k]? = some x := ⟨_, List.getElem?_eq_getElem hlt⟩
      obtain ⟨ad, rfl, hc⟩ := (HR.out.below HB.out (Nat.le_refl _)) k x hx
      have hkb : k ≤ 1000000 := by omega
      have HC := Lib.hid (HP.out wr x (List.mem_of_getElem? hx) HB.out)
      have HX := Lib.hid hx
      clear hx
      cases hq : p x with
      | true =>
        have HQ := Lib.hid hq
        rw [hq] at HC
        clear hq
        go_wp2_with (go_at_fn g; refine HC.out.mono ?_; rintro e w' ⟨rfl, hb'⟩)
        go_ret
        exact ⟨_, rfl, .inl ⟨k, x, HX.out, rfl, HQ.out, HALL.out⟩, hb'⟩
      | false =>
        have HQ := Lib.hid hq
        rw [hq] at HC
        clear hq
        go_wp2_with (go_at_fn g; refine HC.out.mono ?_; rintro e w' ⟨rfl, hb'⟩)
        go_roundw
        case measure => simp [intOf]; omega
        case rel =>
          refine ⟨k + 1, hlt, by go_num, fun j y hj hy => ?_, hb'⟩
          by_cases e : j = k
          · subst e
            have h := HX.out
            rw [hy] at h
            cases h
            exact HQ.out
          · exact HALL.out j y (by omega) hy
    · have hke : k = zs.length := by omega
      subst hke
      go_wp2
      go_ret
      refine ⟨_, rfl, .inr ⟨rfl, fun x hx => ?_⟩, HB.out⟩
      obtain ⟨i, hi, rfl⟩ := List.mem_iff_getElem.1 hx
      exact HALL.out i _ hi (List.getElem?_eq_getElem hi)

theorem enters76 (args : Array Value) (w : World) : (callFunc 76 args).run Try.prog w = .ok (.enter 76 args) w := by
  have h : (Try.f76.name == "runtime.NumGoroutine") = false := by kernel_rfl
  exact enters_of Try.func76 h rfl args w

theorem enters74 (args : Array Value) (w : World) : (callFunc 74 args).run Try.prog w = .ok (.enter 74 args) w := by
  have h : (Try.f74.name == "runtime.NumGoroutine") = false := by kernel_rfl
  exact enters_of Try.func74 h rfl args w

theorem first_any {p : S → Bool} {zs : List S} {r : Int} (h : FirstAt p zs r) : decide (0 ≤ r) = zs.any p := by
  rw [Bool.eq_iff_iff, decide_eq_true_iff, List.any_eq_true]
  rcases h with ⟨i, x, hx, rfl, hp, _⟩ | ⟨rfl, h⟩
  · exact ⟨fun _ => ⟨x, List.mem_of_getElem? hx, hp⟩, fun _ => by omega⟩
  · refine ⟨fun h => absurd h (by omega), ?_⟩
    rintro ⟨x, hx, hp⟩
    rw [h x hx] at hp
    cases hp

set_option maxRecDepth 100000 in
theorem contains75 (g : Nat) (lb : Array Value) (eg : ∀ args w, (callFunc g args).run Try.prog w = .ok (.enter g args) w) (A : Option Addr) (c : Nat) (zs : List S) (p : S → Bool) (w : World) (hp : PredOn g lb p zs w) (hr : StrRow w A zs) (hn : zs.length ≤ 1000000) :
    Calls Try.prog 75 #[.slice A zs.length c, .func (.func g) #[] lb] w fun e w' => e = .returned (.bool (zs.any p)) ∧ Below w.heap.size w w' := by
  have H := Lib.hid (index73 g lb eg A c zs p w hp hr hn)
  clear hp hr
  go_enter Try.func75, Try.ntmps75
  go_wp2_with (go_at_call 73; refine H.out.mono ?_; rintro e w1 ⟨r, rfl, hF, hB⟩; have HF := Lib.hid (first_any hF); have HB := Lib.hid hB; clear hF hB)
  go_ret
  exact ⟨by first | rfl | (rw [HF.out]; rfl), HB.out⟩

set_option maxRecDepth 100000 in
/-- The outer closure: does nobody hinder s? -/
theorem free74 {w : World} {b base N : Nat} {E : Es} {nodes left : List S} {A : Option Addr} {c : Nat} (h : WaysAt w b base E N nodes) (hl : ∀ x ∈ left, x ∈ nodes) (hz : ∀ x ∈ nodes, x.length ≤ 100000) (s : S) (hs : s ∈ nodes) (p q : Addr)
    (hp : w.cell? p = some (.slice A left.length c)) (hq : w.cell? q = some (.map (some b))) (hr : StrRow w A left) (hn : left.length ≤ 1000000) :
    Calls Try.prog 74 #[.string (U s), .pointer (some p), .pointer (some q)] w fun e w' => e = .returned (.bool (!(left.any (hind E s)))) ∧ Below w.heap.size w w' := by
  obtain ⟨w1, hw1⟩ : ∃ w1, w1 = w.alloc (.cells #[.string (U s)] 9) := ⟨_, rfl⟩
  have hb1 : Below w.heap.size w w1 := by rw [hw1]; exact (Below.refl _ w).alloc (Nat.le_refl _) _
  have c1 : w1.cell? ⟨w.heap.size, 0, none⟩ = some (.string (U s)) := by rw [hw1]; exact cell_of_block (j := 0) (heap_alloc_new w _) rfl
  have cp : w1.cell? p = some (.slice A left.length c) := (hb1.cell (World.block_lt_of_cell? _ _ hp)).trans hp
  have hq1 : w1.cell? q = some (.map (some b)) := (hb1.cell (World.block_lt_of_cell? _ _ hq)).trans hq
  have hw := h.below hb1 (Nat.le_refl _)
  have H := Lib.hid (contains75 76 #[.pointer (some ⟨w.heap.size, 0, none⟩), .pointer (some q)] enters76 A c left (hind E s) w1 (fun W x hx hB => by
    have hh := hinds76 (hw.below hB (Nat.le_refl _)) s x hs (hl x hx) (hz s hs) (hz x (hl x hx)) ⟨w.heap.size, 0, none⟩ q ((hB.cell (World.block_lt_of_cell? _ _ c1)).trans c1) ((hB.cell (World.block_lt_of_cell? _ _ hq1)).trans hq1)
    exact hh.mono fun e w' ⟨h1, h2⟩ => ⟨h1, hB.trans (h2.mono hB.size)⟩) (hr.below hb1 (Nat.le_refl _)) hn)
  have HB1 := Lib.hid hb1
  clear hb1 c1 hq1 hw h hl hz hs hp hq hr
  go_enter Try.func74, Try.ntmps74
  go_upto_region 1 with (fail)
  rw [← hw1]
  clear hw1
  go_wp2_with (go_at_call 75; refine H.out.mono ?_; rintro e w2 ⟨rfl, hB⟩; have HB := Lib.hid hB; clear hB)
  go_ret
  exact ⟨rfl, HB1.out.trans (HB.out.mono HB1.out.size)⟩
end Go.Proofs.Ytljfknneijmfoaa
