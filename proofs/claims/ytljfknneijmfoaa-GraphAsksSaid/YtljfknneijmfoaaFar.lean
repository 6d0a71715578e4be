import Derived.Test.YtljfknneijmfoaaNet
import Derived.Test.YtljfknneijmfoaaWWords
import Derived.Deep.LoopGhost
namespace Go.Proofs.Ytljfknneijmfoaa
open Go.RowKit Go.Maps Go.WideMaps
open Go.Proofs.YtljfknneijmfoaaW.PrintWords (QRow q_of_own q_append q_drop q_cells q_slice q_move q_lt q_typed cut_from)

/-- A row of strings that is read. -/
def StrRow (w : World) (A : Option Addr) (xs : List S) : Prop := ∀ (k : Nat) (x : S), xs[k]? = some x → ∃ ad, A = some ad ∧ w.cell? (ad.add k) = some (.string (U x))

/-- A map of distances. -/
def dmap (out : S → Option Nat) : S → Option Value := fun s => (out s).map fun (d : Nat) => Value.int .i64 (d : Int)

/-- How many of some are not met. -/
def unmet (us : List S) (out : S → Option Nat) : Nat := (us.filter fun u => (out u).isNone).length

theorem unmet_le (us : List S) (out : S → Option Nat) : unmet us out ≤ us.length := List.length_filter_le _ _

theorem unmet_fresh (us : List S) (out : S → Option Nat) (t : S) (d : Nat) (ht : t ∈ us) (h : out t = none) :
    unmet us (fun x => if x = t then some d else out x) < unmet us out := by
  unfold unmet
  show (us.filter fun u => ((if u = t then some d else out u) : Option Nat).isNone).length < (us.filter fun u => (out u).isNone).length
  have hmono : ∀ l : List S, (l.filter fun u => ((if u = t then some d else out u) : Option Nat).isNone).length ≤ (l.filter fun u => (out u).isNone).length := by
    intro l
    induction l with
    | nil => simp
    | cons y l ih =>
      rw [List.filter_cons, List.filter_cons]
      by_cases e : y = t
      · subst e
        simp [h]
        omega
      · simp only [if_neg e]
        split
        · simp only [List.length_cons]; omega
        · exact ih
  induction us with
  | nil => cases ht
  | cons u us ih =>
    rw [List.filter_cons, List.filter_cons]
    by_cases e : u = t
    · subst e
      have h1 := hmono us
      simp only [h, if_true, Option.isNone_some, Option.isNone_none, Bool.false_eq_true, if_false, List.length_cons]
      exact Nat.lt_succ_of_le h1
    · have h1 := ih (by simpa [Ne.symm e] using ht)
      simp only [if_neg e]
      split
      · simp only [List.length_cons]; omega
      · exact h1

theorem wpList_append_q {ops : Array Oper} {rest : List Oper} {o : Oper} {a : Act} {Q : Exit → Act → World → Prop} (w : World) (hgd : o.guard = none) (s x : Operand)
    (hop : o.op = .call { callee := .builtin .append, args := #[s, x], argTypes := #[22, 22] }) (base : Nat) (v : Value) (xs : List S) (hs : a.eval s = v) (hown : QRow w base 9 1 v xs.length (xs.map encStr))
    (ad : Addr) (c : Nat) (y : S) (hx : a.eval x = .slice (some ad) 1 c) (hnews : w.cell? ad = some (encStr y)) (hl : xs.length ≤ 1000000) (hbase : base ≤ w.heap.size)
    (hK : ∀ A c w', QRow w' base 9 1 (.slice A (xs.length + 1) c) (xs ++ [y]).length ((xs ++ [y]).map encStr) → w.grownBy w' v.ownBlock → ((Value.slice A (xs.length + 1) c).ownBlock = v.ownBlock ∨ ∃ b, (Value.slice A (xs.length + 1) c).ownBlock = some b ∧ w.heap.size ≤ b) →
      wpList Try.prog ops Q rest (a.put o.dst (.slice A (xs.length + 1) c)) w') :
    wpList Try.prog ops Q (o :: rest) a w := by
  obtain ⟨i9, hi9, hz90, hz91, hz92⟩ := info_parts info9
  obtain ⟨v', w', hr, h1, h2, h3⟩ := q_append (P := Try.prog) w base 22 o.type 9 i9 _ 1 16 Try.underlying22 hi9 hz90 hz91 hz92 rfl (by omega) v xs.length (xs.map encStr) hown ad 1 c [encStr y] rfl (by
      intro j u hu
      cases j with
      | zero => cases hu; simpa [Addr.add] using hnews
      | succ j => cases hu) (by simp [encStr, Value.oneCell']) (by omega) (by unfold maxLen; omega) (by omega) hbase
  obtain ⟨A, c', rfl, _⟩ := q_slice h1
  refine wpList_plain hgd fun K hK' => ?_
  unfold Oper.wp execOp
  simp only [hop, resolve, invoke, builtin, Sem.run_bind, Sem.run_pure, Result.andThen_ok, List.map_toArray, List.map_cons, List.map_nil, hs, hx, hr]
  exact hK' _ _ (hK A c' w' (by simpa using h1) h2 h3)

/-- The same at a step of a region that draws its order. -/
theorem step_append_q {ops : Array Oper} {o : Oper} {a : Act} {w : World} {K : Act → World → Prop} {Q : Exit → Act → World → Prop} {E : Prop} (hgd : o.guard = none) (s x : Operand)
    (hop : o.op = .call { callee := .builtin .append, args := #[s, x], argTypes := #[22, 22] }) (base : Nat) (v : Value) (xs : List S) (hs : a.eval s = v) (hown : QRow w base 9 1 v xs.length (xs.map encStr))
    (ad : Addr) (c : Nat) (y : S) (hx : a.eval x = .slice (some ad) 1 c) (hnews : w.cell? ad = some (encStr y)) (hl : xs.length ≤ 1000000) (hbase : base ≤ w.heap.size)
    (hK : ∀ A c w', QRow w' base 9 1 (.slice A (xs.length + 1) c) (xs ++ [y]).length ((xs ++ [y]).map encStr) → w.grownBy w' v.ownBlock → ((Value.slice A (xs.length + 1) c).ownBlock = v.ownBlock ∨ ∃ b, (Value.slice A (xs.length + 1) c).ownBlock = some b ∧ w.heap.size ≤ b) →
      K (a.put o.dst (.slice A (xs.length + 1) c)) w') :
    if Region.wanted o (yielded ops a.tmps) = true then Oper.wp Try.prog o a w K Q else E := by
  have hw : Region.wanted o (yielded ops a.tmps) = true := by simp [Region.wanted, hgd]
  rw [if_pos hw]
  obtain ⟨i9, hi9, hz90, hz91, hz92⟩ := info_parts info9
  obtain ⟨v', w', hr, h1, h2, h3⟩ := q_append (P := Try.prog) w base 22 o.type 9 i9 _ 1 16 Try.underlying22 hi9 hz90 hz91 hz92 rfl (by omega) v xs.length (xs.map encStr) hown ad 1 c [encStr y] rfl (by
      intro j u hu
      cases j with
      | zero => cases hu; simpa [Addr.add] using hnews
      | succ j => cases hu) (by simp [encStr, Value.oneCell']) (by omega) (by unfold maxLen; omega) (by omega) hbase
  obtain ⟨A, c', rfl, _⟩ := q_slice h1
  unfold Oper.wp execOp
  simp only [hop, resolve, invoke, builtin, Sem.run_bind, Sem.run_pure, Result.andThen_ok, List.map_toArray, List.map_cons, List.map_nil, hs, hx, hr]
  exact hK A c' w' (by simpa using h1) h2 h3
end Go.Proofs.Ytljfknneijmfoaa

namespace Go.Proofs.Ytljfknneijmfoaa
open Go.RowKit Go.Maps Go.WideMaps
open Go.Proofs.YtljfknneijmfoaaW.PrintWords (QRow q_of_own q_append q_drop q_cells q_slice q_move q_lt q_typed cut_from q_lower)

theorem NetAt.below {w w' : World} {p k : Nat} {E : Es} (h : NetAt w p E) (hB : Below k w w') (hk : w.heap.size ≤ k) : NetAt w' p E := by
  obtain ⟨v, xs, bx, n, f, h1, h2, h3, h4, h5, h6⟩ := h
  have hp : p < w.heap.size := (Array.getElem?_eq_some_iff.1 h1).1
  refine ⟨v, xs, bx, n, f, (hB.block p (by omega)).trans h1, h2.below hB (Nat.lt_of_lt_of_le h2.lt hk), own_below h3 hB hk, h4, h5, fun s => ?_⟩
  obtain ⟨ys, y1, y2, y3⟩ := h6 s
  exact ⟨ys, y1, y2, own_below y3 hB hk⟩

theorem NetAt.lt {w : World} {p : Nat} {E : Es} (h : NetAt w p E) : p < w.heap.size := by
  obtain ⟨v, xs, bx, n, f, h1, _⟩ := h
  exact (Array.getElem?_eq_some_iff.1 h1).1

theorem row_q {w : World} {base : Nat} {A : Option Addr} {c : Nat} {xs : List S} (h : QRow w base 9 1 (.slice A xs.length c) xs.length (xs.map encStr)) : StrRow w A xs := by
  intro k x hx
  have hk : k < xs.length := (List.getElem?_eq_some_iff.1 hx).1
  obtain ⟨ad, rfl, hc⟩ := q_cells h (by omega)
  exact ⟨ad, rfl, hc k _ (by simp [hx, enc_U])⟩

theorem row_own {w : World} {base : Nat} {v : Value} {xs : List S} (h : w.ownsRow base 9 1 v xs.length (xs.map encStr)) : ∃ A c, v = .slice A xs.length c ∧ StrRow w A xs := by
  obtain ⟨A, c, rfl⟩ := own_form h
  exact ⟨A, c, rfl, row_q (q_of_own h)⟩

theorem StrRow.below {w w' : World} {A : Option Addr} {xs : List S} {k : Nat} (h : StrRow w A xs) (hB : Below k w w') (hk : w.heap.size ≤ k) : StrRow w' A xs := by
  intro j x hx
  obtain ⟨ad, rfl, hc⟩ := h j x hx
  refine ⟨ad, rfl, ?_⟩
  have := World.block_lt_of_cell? w _ hc
  exact (hB.cell (by omega)).trans hc

/-- Between two steps of the search. -/
structure FarAt (w wr : World) (U0 : List S) (n0 K : Nat) (todo : List S) (out : S → Option Nat) (v : Value) : Prop where
  q : QRow wr (w.heap.size + 1) 9 1 v todo.length (todo.map encStr)
  m : ∃ N, hmap wr w.heap.size N (dmap out) ∧ N + unmet U0 out ≤ n0
  meas : 2 * unmet U0 out + todo.length ≤ K
  small : ∀ x d, out x = some d → d + unmet U0 out ≤ U0.length
  known : ∀ x, (out x).isSome → x ∈ U0
  below : Below w.heap.size w wr
  size : w.heap.size + 1 ≤ wr.heap.size

set_option maxRecDepth 100000 in
theorem far59 (p : Nat) (E : Es) (A : Option Addr) (cap : Nat) (src : List S) (w : World) (hN : NetAt w p E) (hA : StrRow w A src) (hn : src.length ≤ 100000) (hE : E.length ≤ 100000)
    (hs : ∀ x ∈ src, x.length ≤ 100000) (he : ∀ e ∈ E, e.1.length ≤ 100000 ∧ e.2.length ≤ 100000) :
    Calls Try.prog 59 #[.pointer (some ⟨p, 0, none⟩), .slice A src.length cap] w fun e w' => e = .returned (.map (some w.heap.size)) ∧
      (∃ out N, hmap w' w.heap.size N (dmap out) ∧ N ≤ 300000 ∧ (∀ x d, out x = some d → d ≤ 300000) ∧ ∀ x d, out x = some d ↔ Dist E src x d) ∧ Below w.heap.size w w' := by
  have hmm := @run_makeMap Try.prog
  obtain ⟨i9, hi9, hz90, hz91, hz92⟩ := info_parts info9
  obtain ⟨U0, hU0⟩ : ∃ U0, U0 = src ++ E.map (·.2) := ⟨_, rfl⟩
  have hUl : U0.length ≤ 200000 := by rw [hU0]; simp; omega
  have hUs : ∀ x ∈ U0, x.length ≤ 100000 := by
    intro x hx
    rw [hU0] at hx
    rcases List.mem_append.1 hx with h | h
    · exact hs x h
    · obtain ⟨e, h', rfl⟩ := List.mem_map.1 h
      exact (he e h').2
  have hUsrc : ∀ x ∈ src, x ∈ U0 := fun x hx => by rw [hU0]; simp [hx]
  have hUE : ∀ a b, (a, b) ∈ E → b ∈ U0 := fun a b h => by rw [hU0]; simp; exact .inr ⟨a, h⟩
  have HN := Lib.hid hN
  have HA := Lib.hid hA
  have HUL := Lib.hid hUl
  have HUS := Lib.hid hUs
  have HSRC := Lib.hid hUsrc
  have HUE := Lib.hid hUE
  clear hN hA hE hs he hU0 hUl hUs hUsrc hUE
  go_enter Try.func59, Try.ntmps59
  go_wp2
  go_loopw [17] (fun i wr => ∃ k : Nat, k ≤ src.length ∧ i = .int .i64 k ∧ hmap wr w.heap.size k (dmap fun x => if x ∈ src.take k then some 0 else none) ∧ Below w.heap.size w wr ∧ w.heap.size + 1 ≤ wr.heap.size) (fun i _ => src.length - (intOf i).toNat)
  case atStart =>
    refine ⟨0, Nat.zero_le _, rfl, ?_, ?_, ?_⟩
    · refine (hmap_made w).congr fun s => ?_
      simp [dmap]
    · exact (Below.refl _ w).alloc (Nat.le_refl _) _
    · simp
  case round =>
    obtain ⟨k, hk, rfl, hm, hb, hz⟩ := hrel
    by_cases hlt : k < src.length
    · obtain ⟨x, hx⟩ : ∃ x, src[k]? = some x := ⟨_, List.getElem?_eq_getElem hlt⟩
      obtain ⟨ad, rfl, hc⟩ := HA.out k x hx
      have hxs : (U x).size ≤ maxLen := by
        rw [size_U]
        have := HUS.out x (HSRC.out x (List.mem_of_getElem? hx))
        unfold maxLen
        omega
      replace hc := (hb.cell (World.block_lt_of_cell? w _ hc)).trans hc
      have HM := Lib.hid hm
      have HX := Lib.hid hx
      have HB := Lib.hid hb
      have HXS := Lib.hid hxs
      clear hm hx hb hxs
      go_wp2_with (first
        | (at_mapUpdate; refine wpList_update_h _ rfl _ _ _ 84 rfl 3 Try.underlying84 w.heap.size _ _ rfl HM.out (by unfold maxLen; omega) (U x) rfl HXS.out _ rfl ?_; intro w1 hm1 hg1; have HM1 := Lib.hid hm1; have HG1 := Lib.hid hg1; clear hm1 hg1))
      go_roundw
      case measure => simp [intOf]; omega
      case rel =>
        refine ⟨k + 1, by omega, by go_num, ?_, ?_, ?_⟩
        · refine HM1.out.congr fun s => ?_
          rw [List.take_add_one, HX.out]
          unfold upd dmap
          rw [B_U]
          by_cases e : s = x
          · simp [e]
            rfl
          · by_cases h : s ∈ src.take k
            · simp [e, h]
            · simp [e, h]
        · exact HB.out.grown HG1.out (by omega) (fun j hj => by cases hj; omega)
        · have := HG1.out.size; omega
    · have hke : k = src.length := by omega
      subst hke
      rw [List.take_length] at hm
      have HS5 := Lib.hid (sorted61 hm (by omega))
      have HM := Lib.hid hm
      have HB := Lib.hid hb
      clear hm hb hk hlt
      go_wp2_with (first
        | (go_at_call 62; refine (keys62 _ _).mono ?_; rintro e w5 ⟨rfl, rfl⟩)
        | (go_at_call 61; refine HS5.out.mono ?_; rintro e w6 ⟨v, xs, rfl, hss, hmem, hxl, hrow, hb6⟩; obtain ⟨Av, cv, rfl⟩ := own_form hrow; have HB6 := Lib.hid hb6; have HROW := Lib.hid hrow; have HSS := Lib.hid hss; have HMEM := Lib.hid hmem; clear hb6 hrow hss hmem))
      obtain ⟨wo, rfl⟩ : ∃ wo : World, wo = wr := ⟨_, rfl⟩
      go_loopg [8] (2 * 200000 + 100000) (fun gk s8 wr2 => ∃ (todo : List S) (out : S → Option Nat) (A8 : Option Addr) (c8 : Nat), s8 = .slice A8 todo.length c8 ∧ gk ≤ 500000 ∧ FarAt w wr2 U0 300000 gk todo out (.slice A8 todo.length c8) ∧ Bfs0 E src out todo)
      case atStart =>
        have hz6 := HB6.out.size
        simp only [World.size_alloc] at hz6
        have hul := HUL.out
        have hum := unmet_le U0 (fun x => if x ∈ src then some 0 else none)
        have hb6 : Below w.heap.size w w6 := (HB.out.alloc (Nat.le_trans (Nat.le_succ _) hz) _).trans (HB6.out.mono (by omega))
        refine ⟨xs, (fun x => if x ∈ src then some 0 else none), Av, cv, rfl, by omega, ⟨q_lower (q_of_own HROW.out) (by omega), ⟨src.length, ?_, by omega⟩, by omega, ?_, ?_, hb6, by omega⟩, ?_⟩
        · exact (HM.out.alloc _).below HB6.out (by omega)
        · intro x d hx
          split at hx
          · cases hx; omega
          · cases hx
        · intro x hx
          split at hx
          · exact HSRC.out x (by assumption)
          · cases hx
        · refine Bfs0.init E src xs _ (fun x hx => if_pos hx) (fun x hx => if_neg hx) (fun x => ?_) HSS.out.nodup
          rw [HMEM.out]
          unfold dmap
          by_cases h : x ∈ src
          · simp [h]
          · simp [h]
      case round =>
        obtain ⟨todo, out, A8, c8, rfl, hgk, hF, hB0⟩ := hrel
        have HF := Lib.hid hF
        have HB0 := Lib.hid hB0
        clear hF hB0 HM HB HS5 HB6 HROW HSS HMEM
        cases todo with
        | nil =>
          go_wp2_with fail
          go_ret
          obtain ⟨N, hm, hNN⟩ := HF.out.m
          have hul := HUL.out
          refine ⟨rfl, ⟨out, N, hm, by omega, fun x d hx => ?_, HB0.out.done_all⟩, HF.out.below⟩
          have := HF.out.small x d hx
          omega
        | cons s todo =>
          obtain ⟨ad, rfl, hcs⟩ := row_q HF.out.q 0 s rfl
          have hc0 : wr.cell? ad = some (.string (U s)) := by simpa [Addr.add] using hcs
          have hcut : ∀ W : World, (Instr.slice 22 (.slice (some ad) (todo.length + 1) c8) (some (.int .i64 1)) none none).run Try.prog W = .ok (.slice (if c8 = 1 then some ad else (some ad).map (·.add 1)) todo.length (c8 - 1)) W :=
            cut_from 22 9 .i64 Try.underlying22 hi9 1 hz91 (some ad) (todo.length + 1) c8 1 (by omega) (by omega)
          have hq9 : QRow wr (w.heap.size + 1) 9 1 (.slice (if c8 = 1 then some ad else (some ad).map (·.add 1)) todo.length (c8 - 1)) todo.length (todo.map encStr) := by
            have := q_drop (k := 1) HF.out.q (by simp)
            simpa using this
          obtain ⟨A9, hA9⟩ : ∃ A9, A9 = if c8 = 1 then some ad else (some ad).map (·.add 1) := ⟨_, rfl⟩
          rw [← hA9] at hcut hq9
          obtain ⟨ds0, hds0⟩ := Option.isSome_iff_exists.1 (HB0.out.met s (by simp))
          have hus : s ∈ U0 := HF.out.known s (by rw [hds0]; rfl)
          have hss : (U s).size ≤ maxLen := by
            rw [size_U]
            have := HUS.out s hus
            unfold maxLen
            omega
          obtain ⟨vN, xsN, bx, nx, fx, h1, h2, _, _, _, h6⟩ := HN.out
          obtain ⟨ys, hys, hyl, hyo⟩ := h6 s
          obtain ⟨Ay, cy, hfy, hrow⟩ := row_own hyo
          have hpl : p < w.heap.size := (Array.getElem?_eq_some_iff.1 h1).1
          have hcp := cell_of_block (j := 1) ((HF.out.below.block p hpl).trans h1) rfl
          have hmx := h2.below HF.out.below h2.lt
          have hB := HB0.out.pop (rest := ys) hys.2
          have hlen : todo.length + 1 ≤ 500000 ∧ 1 ≤ gk := by have := HF.out.meas; simp only [List.length_cons] at this; omega
          obtain ⟨hlen, hgk1⟩ := hlen
          have HIY := Lib.hid hys.2
          have HQ9 := Lib.hid hq9
          have HMX := Lib.hid hmx
          have HB := Lib.hid hB
          have HFY := Lib.hid hfy
          have HSS := Lib.hid hss
          have HROW := Lib.hid hrow
          clear h1 h2 h6 hys hyo hfy hrow hq9 hmx hB hss hA9 hds0 hus hcs
          go_wp2_with (first
            | (at_lookup; refine wpList_lookup_h _ rfl _ _ 88 rfl 22 Try.underlying88 (.slice none 0 0) (zero22 _) bx _ fx rfl HMX.out (U s) rfl HSS.out (.slice Ay ys.length cy) HFY.out ?_))
          obtain ⟨wo2, rfl⟩ : ∃ wo2 : World, wo2 = wr := ⟨_, rfl⟩
          go_loopw [42, 8] (fun i s8 wr3 => ∃ (j : Nat) (todo' : List S) (out' : S → Option Nat) (A' : Option Addr) (c' : Nat), j ≤ ys.length ∧ i = .int .i64 j ∧ s8 = .slice A' todo'.length c' ∧ FarAt w wr3 U0 300000 (gk - 1) todo' out' (.slice A' todo'.length c') ∧ Bfs E src out' todo' s (ys.drop j)) (fun i _ _ => ys.length - (intOf i).toNat)
          case atStart =>
            refine ⟨0, todo, out, A9, c8 - 1, Nat.zero_le _, rfl, rfl, ?_, by simpa using HB.out⟩
            have hF := HF.out
            refine ⟨HQ9.out, hF.m, ?_, hF.small, hF.known, hF.below, hF.size⟩
            have := hF.meas
            simp only [List.length_cons] at this
            omega
          case round =>
            obtain ⟨j, todo', out', A', c', hj, rfl, rfl, hF2, hB2⟩ := hrel
            clear HF HB0 HQ9 HMX HB HFY hcp hcut hc0
            by_cases hlt : j < ys.length
            · obtain ⟨t, ht⟩ : ∃ t, ys[j]? = some t := ⟨_, List.getElem?_eq_getElem hlt⟩
              obtain ⟨ay, rfl, hct⟩ := HROW.out j t ht
              have hct' := (hF2.below.cell (World.block_lt_of_cell? w _ hct)).trans hct
              have hjb : j ≤ 1000000 := by omega
              have hdrop : ys.drop j = t :: ys.drop (j + 1) := by
                rw [List.drop_eq_getElem_cons hlt]
                congr 1
                rw [List.getElem?_eq_getElem hlt] at ht
                exact Option.some.inj ht
              rw [hdrop] at hB2
              have hty : (s, t) ∈ E := (HIY.out t).1 (List.mem_of_getElem? ht)
              have hus : (U t).size ≤ maxLen := by
                rw [size_U]
                have := HUS.out t (HUE.out s t hty)
                unfold maxLen
                omega
              obtain ⟨ds, hds, _⟩ := hB2.cur
              obtain ⟨N, hm, hNN⟩ := hF2.m
              have hdl := hF2.small s ds hds
              have hul := HUL.out
              have hdb : ds ≤ 200000 := by omega
              have hd1 : (dmap out' s).getD (.int .i64 0) = .int .i64 (ds : Int) := by simp [dmap, hds]
              have HM := Lib.hid hm
              have HF := Lib.hid hF2
              have HB := Lib.hid hB2
              have HT := Lib.hid ht
              have HUT := Lib.hid hus
              have HTY := Lib.hid hty
              have HDS := Lib.hid hds
              have HD1 := Lib.hid hd1
              have HNN := Lib.hid hNN
              clear hm hF2 hB2 ht hus hty hds hd1 hNN hct hdrop hdl hul
              cases hot : out' t with
              | some dt =>
                have hok : (dmap out' (B (U t))).isSome = true := by rw [B_U]; simp [dmap, hot]
                have hvt : (dmap out' (B (U t))).getD (.int .i64 0) = .int .i64 (dt : Int) := by rw [B_U]; simp [dmap, hot]
                have HOK := Lib.hid hok
                have HVT := Lib.hid hvt
                clear hok hvt
                go_wp2_with (first
                  | (at_lookup; refine wpList_lookup_ok_h _ rfl _ _ 84 rfl 3 Try.underlying84 (.int .i64 0) (zero3 _) w.heap.size _ _ rfl HM.out (U t) rfl HUT.out _ HVT.out true HOK.out ?_))
                go_roundw
                case measure => simp [intOf]; omega
                case rel =>
                  exact ⟨j + 1, todo', out', A', c', hlt, by go_num, rfl, HF.out, HB.out.old (by rw [hot]; rfl)⟩
              | none =>
                have hok : (dmap out' (B (U t))).isSome = false := by rw [B_U]; simp [dmap, hot]
                have hvt : (dmap out' (B (U t))).getD (.int .i64 0) = .int .i64 0 := by rw [B_U]; simp [dmap, hot]
                have HOK := Lib.hid hok
                have HVT := Lib.hid hvt
                have HOT := Lib.hid hot
                clear hok hvt hot
                have tok1 : True := trivial
                have tok2 : True := trivial
                have hnb : ∀ k, (Value.slice A' todo'.length c').ownBlock = some k → w.heap.size + 1 ≤ k ∧ k < wr.heap.size := fun k hk => ⟨(q_typed HF.out.q k hk).1, q_lt HF.out.q k hk⟩
                have HNB := Lib.hid hnb
                clear hnb
                go_wp2_with (first
                  | (at_lookup; have _t := tok1; refine wpList_lookup_ok_h _ rfl _ _ 84 rfl 3 Try.underlying84 (.int .i64 0) (zero3 _) w.heap.size _ _ rfl HM.out (U t) rfl HUT.out _ HVT.out false HOK.out ?_; clear tok1)
                  | (at_lookup; have _t := tok2; refine wpList_lookup_h _ rfl _ _ 84 rfl 3 Try.underlying84 (.int .i64 0) (zero3 _) w.heap.size _ _ rfl HM.out (U s) rfl HSS.out (.int .i64 (ds : Int)) HD1.out ?_; clear tok2)
                  | (at_mapUpdate; refine wpList_update_h _ rfl _ _ _ 84 rfl 3 Try.underlying84 w.heap.size _ _ rfl HM.out (by have := HNN.out; unfold maxLen; omega) (U t) rfl HUT.out _ rfl ?_; intro w1 hm1 hg1; have HM1 := Lib.hid hm1; have HG1 := Lib.hid hg1; have HQ1 := Lib.hid (q_move HF.out.q (w1 := w1) fun k hk => hg1.block k (HNB.out k hk).2 (by have := (HNB.out k hk).1; simp; omega)); clear hm1 hg1)
                  | (at_builtin; refine wpList_append_q _ rfl (.tmp 60) (.tmp 62) rfl (w.heap.size + 1) (.slice A' todo'.length c') todo' rfl (q_move HQ1.out (fun k hk => Below.heap_alloc w1 _ k (q_lt HQ1.out k hk))) ⟨w1.heap.size, 0, none⟩ 1 t rfl (cell_of_block (j := 0) (block_new w1 _) rfl) (by have := HF.out.meas; omega) (by have := HG1.out.size; have := HF.out.size; simp; omega) ?_; intro A2 c2 w3 hq3 hg3 hat3; have HQ3 := Lib.hid hq3; have HG3 := Lib.hid hg3; clear hq3 hg3 hat3))
                go_roundw
                case measure => simp [intOf]; omega
                case rel =>
                  have hu1 := unmet_fresh U0 out' t (ds + 1) (HUE.out s t HTY.out) HOT.out
                  have hz1 := HG1.out.size
                  have hz0 := HF.out.size
                  refine ⟨j + 1, todo' ++ [t], (fun x => if x = t then some (ds + 1) else out' x), A2, c2, hlt, by go_num, by simp, ?_, HB.out.fresh HTY.out HOT.out HDS.out⟩
                  have hb1 : Below w.heap.size w w1 := HF.out.below.grown HG1.out (by omega) (fun k hk => by cases hk; omega)
                  have hb3 : Below w.heap.size w w3 := (hb1.alloc (by omega) _).grown HG3.out (by simp; omega) (fun k hk => by have := (HNB.out k hk).1; omega)
                  have hq : QRow w3 (w.heap.size + 1) 9 1 (.slice A2 (todo' ++ [t]).length c2) (todo' ++ [t]).length ((todo' ++ [t]).map encStr) := by
                    have := HQ3.out
                    rw [List.length_append] at this ⊢
                    exact this
                  refine ⟨hq, ⟨N + 1, ?_, ?_⟩, ?_, ?_, ?_, hb3, ?_⟩
                  · have m3 := (HM1.out.alloc (.cells #[.string (U t)] 9)).kept HG3.out (fun e => by have := (HNB.out _ e.symm).1; omega)
                    refine m3.congr fun x => ?_
                    unfold upd dmap
                    rw [B_U]
                    show (if x = t then some _ else (out' x).map _) = ((if x = t then some (ds + 1) else out' x) : Option Nat).map _
                    by_cases e : x = t
                    · rw [if_pos e, if_pos e]
                      refine congrArg some (show Value.int .i64 _ = Value.int .i64 ((ds + 1 : Nat) : Int) from congrArg (Value.int .i64) ?_)
                      first
                        | omega
                        | (unfold wrap64; omega)
                    · rw [if_neg e, if_neg e]
                  · have := HNN.out; omega
                  · have := HF.out.meas; rw [List.length_append]; simp; omega
                  · intro x d hx
                    split at hx
                    · cases hx
                      have := HF.out.small s ds HDS.out
                      omega
                    · have := HF.out.small x d hx
                      omega
                  · intro x hx
                    split at hx
                    · rename_i e; rw [e]; exact HUE.out s t HTY.out
                    · exact HF.out.known x hx
                  · have := HG3.out.size
                    simp at this
                    omega
            · have hje : j = ys.length := by omega
              subst hje
              rw [List.drop_length] at hB2
              have HF := Lib.hid hF2
              have HB := Lib.hid hB2
              clear hF2 hB2 hlt hj
              go_wp2_with fail
              go_roundg (gk - 1)
              case measure => omega
              case rel => exact ⟨todo', out', A', c', rfl, by omega, HF.out, HB.out.next⟩
end Go.Proofs.Ytljfknneijmfoaa
