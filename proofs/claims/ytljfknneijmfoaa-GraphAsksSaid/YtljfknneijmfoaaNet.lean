import Derived.Test.YtljfknneijmfoaaMaps
import Derived.WalkKit
import Derived.WalkLawsBesides
import Derived.Deep.QuietTactic
import Derived.BigQuiet
import Derived.Lib.Hide
import Derived.Outline
import Derived.Carry
import Derived.OwnWalk
import Derived.Maps.AppendAt
import Derived.WalkSpells
import Derived.StillTactics
import Derived.Deep.RegionHeld3
import Derived.Deep.AppendLies
import Derived.KernelRfl
namespace Go.Proofs.Ytljfknneijmfoaa
open Go.RowKit Go.Maps Go.WideMaps

/-- A row of edges that is read. -/
def EdgeRow (w : World) (A : Option Addr) (es : List (S × Int × S)) : Prop :=
  ∀ (k : Nat) (e : S × Int × S), es[k]? = some e → ∃ ad, A = some ad ∧ w.cell? (ad.add (k * 3)) = some (.string (U e.1)) ∧
    w.cell? ⟨(ad.add (k * 3)).block, (ad.add (k * 3)).off + 1, none⟩ = some (.int .i64 e.2.1) ∧
    w.cell? ⟨(ad.add (k * 3)).block, (ad.add (k * 3)).off + 2, none⟩ = some (.string (U e.2.2))

/-- The two ends of each. -/
def ends (es : List (S × Int × S)) : Es := es.map fun e => (e.1, e.2.2)

/-- Who stands there, in their order. -/
def outs (E : Es) (s : S) : List S := (E.filter fun e => e.1 == s).map (·.2)

/-- The counts: the keys are the nodes. -/
def metOf (w : World) (b n : Nat) (E : Es) : Prop :=
  ∃ f, hmap w b n f ∧ (∀ s v, f s = some v → ∃ c : Int, v = .int .i64 c) ∧ ∀ s, (f s).isSome = true ↔ ∃ y, (s, y) ∈ E ∨ (y, s) ∈ E

theorem ends_snoc (es : List (S × Int × S)) (k : Nat) (e : S × Int × S) (h : es[k]? = some e) : ends (es.take (k + 1)) = ends (es.take k) ++ [(e.1, e.2.2)] := by
  unfold ends
  rw [List.take_add_one, h]
  simp

theorem outs_snoc (E : Es) (a b : S) : outs (E ++ [(a, b)]) = updL (outs E) a (outs E a ++ [b]) := by
  funext s
  unfold outs updL
  rw [List.filter_append, List.map_append]
  by_cases h : s = a
  · subst h; simp
  · have : (a == s) = false := by simp; exact fun e => h e.symm
    simp [h, this]

theorem outs_length (E : Es) (s : S) : (outs E s).length ≤ E.length := by
  unfold outs
  rw [List.length_map]
  exact List.length_filter_le _ _

structure Net1 (w wr : World) (E : Es) : Prop where
  met : metOf wr w.heap.size (2 * E.length) E
  next : ∃ f, nrows wr (w.heap.size + 3) (w.heap.size + 1) E.length f (outs E)
  net : wr.heap[w.heap.size + 2]? = some (.cells #[.slice none 0 0, .map (some (w.heap.size + 1))] 90 (0, 0))
  below : Below w.heap.size w wr
  size : w.heap.size + 3 ≤ wr.heap.size

/-- Sorted, each once. -/
def sortc (xs : List S) : List S := Go.Lib.compact (xs.mergeSort fun x y => decide (x ≤ y))

structure Net2 (w wr : World) (E : Es) (v : Value) (xs : List S) (j : Nat) : Prop where
  net : wr.heap[w.heap.size + 2]? = some (.cells #[v, .map (some (w.heap.size + 1))] 90 (0, 0))
  nodes : wr.ownsRow (w.heap.size + 3) 9 1 v xs.length (xs.map encStr)
  next : ∃ f, nrows wr (w.heap.size + 3) (w.heap.size + 1) (E.length + j) f (fun s => if s ∈ xs.take j then sortc (outs E s) else outs E s) ∧ ∀ s u, f s = some u → u.ownBlock = none ∨ u.ownBlock ≠ v.ownBlock
  below : Below w.heap.size w wr
  size : w.heap.size + 3 ≤ wr.heap.size

/-- A net that can be read. -/
def NetAt (w : World) (p : Nat) (E : Es) : Prop :=
  ∃ v xs bx n f, w.heap[p]? = some (.cells #[v, .map (some bx)] 90 (0, 0)) ∧ hmap w bx n f ∧ w.ownsRow 0 9 1 v xs.length (xs.map encStr) ∧ IsNodes E xs ∧ xs.length ≤ 200000 ∧
    ∀ s, ∃ ys, IsNext E s ys ∧ ys.length ≤ 100000 ∧ w.ownsRow 0 9 1 ((f s).getD (.slice none 0 0)) ys.length (ys.map encStr)

/-- What a value that owns a row looks like. -/
theorem own_form {w : World} {base : Nat} {e : TypeId} {size : Nat} {v : Value} {n : Nat} {xs : List Value} (h : w.ownsRow base e size v n xs) : ∃ A c, v = .slice A n c := by
  rcases h.2 with ⟨rfl, rfl⟩ | ⟨g, cap, cur, rfl, _⟩
  · exact ⟨none, 0, rfl⟩
  · exact ⟨_, _, rfl⟩

theorem cell_of_block {w : World} {b j : Nat} {c : Array Value} {t : TypeId} {fr : Nat × Nat} {v : Value} (h : w.heap[b]? = some (.cells c t fr)) (hj : c[j]? = some v) : w.cell? ⟨b, j, none⟩ = some v := by
  simp [World.cell?, h, hj]
theorem frozen_of_block {w : World} {b j : Nat} {c : Array Value} {t : TypeId} (h : w.heap[b]? = some (.cells c t (0, 0))) : w.frozen? ⟨b, j, none⟩ = false := by
  simp [World.frozen?, h]
theorem block_new (w : World) (o : Obj) : (w.alloc o).heap[w.heap.size]? = some o := by
  show (w.heap.push o)[w.heap.size]? = _
  simp
theorem info9 : (Try.prog.info? 9).map (fun i => (i.zero, i.size, i.bytes)) = some (some (.string ⟨#[]⟩), 1, 16) := by kernel_rfl

theorem zero3 (w : World) : (zeroValue 3).run Try.prog w = .ok (.int .i64 0) w := by kernel_rfl
theorem zero22 (w : World) : (zeroValue 22).run Try.prog w = .ok (.slice none 0 0) w := by kernel_rfl

set_option maxRecDepth 100000 in
theorem netOf57 (A : Option Addr) (cap : Nat) (es : List (S × Int × S)) (w : World) (hE : EdgeRow w A es) (hn : es.length ≤ 100000) (hs : ∀ e ∈ es, e.1.length ≤ 100000 ∧ e.2.2.length ≤ 100000) :
    Calls Try.prog 57 #[.slice A es.length cap] w fun e w' => e = .returned (.pointer (some ⟨w.heap.size + 2, 0, none⟩)) ∧ NetAt w' (w.heap.size + 2) (ends es) ∧ Below w.heap.size w w' := by
  have hmm := @run_makeMap Try.prog
  obtain ⟨i9, hi9, hz90, hz91, hz92⟩ := info_parts info9
  have HE := Lib.hid hE
  have HS := Lib.hid hs
  clear hE hs
  go_enter Try.func57, Try.ntmps57
  go_wp2
  go_loopw [15] (fun i wr => ∃ k : Nat, k ≤ es.length ∧ i = .int .i64 k ∧ Net1 w wr (ends (es.take k))) (fun i _ => es.length - (intOf i).toNat)
  case atStart =>
    have e0 : ends (List.take 0 es) = [] := by simp [ends]
    have o0 : outs [] = fun _ => [] := rfl
    refine ⟨0, Nat.zero_le _, rfl, ?_⟩
    rw [e0]
    refine ⟨⟨fun _ => none, (((hmap_made w).alloc _).alloc _), (fun _ _ h => nomatch h), fun s => ⟨(fun h => nomatch h), fun ⟨y, hy⟩ => by simp at hy⟩⟩, ⟨fun _ => none, ?_⟩, ?_, ?_, ?_⟩
    · rw [o0]
      have := ((nrows_made (w.alloc (.map #[] 0)) (w.heap.size + 3)).alloc (.cells #[.slice none 0 0, .map (some (w.heap.size + 1))] 90))
      simpa using this
    · have := block_new ((w.alloc (.map #[] 0)).alloc (.map #[] 0)) (.cells #[.slice none 0 0, .map (some (w.heap.size + 1))] 90)
      simpa using this
    · exact (((Below.refl _ w).alloc (Nat.le_refl _) _).alloc (by simp) _).alloc (by simp; omega) _
    · simp
  case round =>
    obtain ⟨k, hk, rfl, hN⟩ := hrel
    by_cases hlt : k < es.length
    · obtain ⟨⟨ef, pc, et⟩, he⟩ : ∃ e, es[k]? = some e := ⟨_, List.getElem?_eq_getElem hlt⟩
      obtain ⟨ad, rfl, h0, h1, h2⟩ := HE.out k _ he
      dsimp only at h0 h1 h2
      obtain ⟨fm, hm, hmi, hmk⟩ := hN.met
      obtain ⟨fx, hx⟩ := hN.next
      have lt0 := World.block_lt_of_cell? w _ h0
      replace h0 := (hN.below.cell lt0).trans h0
      replace h1 := (hN.below.cell (p := ⟨(ad.add (k * 3)).block, _, none⟩) lt0).trans h1
      replace h2 := (hN.below.cell (p := ⟨(ad.add (k * 3)).block, _, none⟩) lt0).trans h2
      have HN := Lib.hid hN
      have HM := Lib.hid hmi
      have HK := Lib.hid hmk
      have HX := Lib.hid hx
      have HH := Lib.hid hm
      have HLT := Lib.hid hlt
      clear hN hmi hmk hx hm lt0
      have HEE := Lib.hid he
      clear he
      obtain ⟨sf, hsf⟩ : ∃ sf, sf = U ef := ⟨_, rfl⟩
      obtain ⟨st, hst⟩ : ∃ st, st = U et := ⟨_, rfl⟩
      rw [← hsf] at h0
      rw [← hst] at h2
      have HSF := Lib.hid hsf
      have HST := Lib.hid hst
      clear hsf hst
      have hs1 : sf.size ≤ maxLen := by rw [HSF.out, size_U]; have := (HS.out _ (List.mem_of_getElem? HEE.out)).1; unfold maxLen; simp only at this; omega
      have hs2 : st.size ≤ maxLen := by rw [HST.out, size_U]; have := (HS.out _ (List.mem_of_getElem? HEE.out)).2; unfold maxLen; simp only at this; omega
      obtain ⟨c1, hc1⟩ : ∃ c, (fm (B sf)).getD (.int .i64 0) = .int .i64 c := by
        cases h : fm (B sf) with
        | none => exact ⟨0, rfl⟩
        | some v => obtain ⟨c, rfl⟩ := HM.out _ _ h; exact ⟨c, rfl⟩
      obtain ⟨c2, hc2⟩ : ∃ c, ((upd fm (B sf) (.int .i64 (wrap64 (c1 + 1)))) (B st)).getD (.int .i64 0) = .int .i64 c := by
        unfold upd
        split
        · exact ⟨_, rfl⟩
        · cases h : fm (B st) with
          | none => exact ⟨0, rfl⟩
          | some v => obtain ⟨c, rfl⟩ := HM.out _ _ h; exact ⟨c, rfl⟩
      have HC1 := Lib.hid hc1
      have HC2 := Lib.hid hc2
      have HS1 := Lib.hid hs1
      have HS2 := Lib.hid hs2
      have hlen : (ends (es.take k)).length ≤ 100000 := by unfold ends; simp; omega
      have HL := Lib.hid hlen
      clear hc1 hc2 hs1 hs2 hlen
      have hnet := HN.out.net
      have hsz := HN.out.size
      have hb0 : (wr.alloc (.cells #[.string sf, .int .i64 pc, .string st] 50)).heap[wr.heap.size]? = some (.cells #[.string sf, .int .i64 pc, .string st] 50) := block_new _ _
      have HNET := Lib.hid hnet
      have HB0 := Lib.hid hb0
      clear hnet hb0
      have tok1 : True := trivial
      have tok2 : True := trivial
      have tok3 : True := trivial
      have tok4 : True := trivial
      go_wp2_with (first
        | (at_lookup; have _t := tok1; refine wpList_lookup_h _ rfl _ _ 84 rfl 3 Try.underlying84 (.int .i64 0) (zero3 _) w.heap.size _ fm rfl (HH.out.alloc _) sf rfl HS1.out (.int .i64 c1) HC1.out ?_; clear tok1)
        | (at_mapUpdate; have _t := tok2; refine wpList_update_h _ rfl _ _ _ 84 rfl 3 Try.underlying84 w.heap.size _ fm rfl (HH.out.alloc _) (by have := HL.out; unfold maxLen; omega) sf rfl HS1.out _ rfl ?_; clear tok2; intro w1 hm1 hg1; have hb1 := (hg1.block wr.heap.size (by simp) (by simp; omega)).trans HB0.out; have hz1 := hg1.size; simp only [World.size_alloc] at hz1; have k1 := cell_of_block (j := 0) hb1 rfl; have k2 := cell_of_block (j := 2) hb1 rfl; have HB1 := Lib.hid hb1; have HM1 := Lib.hid hm1; have HG1 := Lib.hid hg1; clear hb1 hm1 hg1)
        | (at_lookup; have _t := tok3; refine wpList_lookup_h _ rfl _ _ 84 rfl 3 Try.underlying84 (.int .i64 0) (zero3 _) w.heap.size _ _ rfl HM1.out st rfl HS2.out (.int .i64 c2) HC2.out ?_; clear tok3)
        | (at_mapUpdate; have _t := tok4; refine wpList_update_h _ rfl _ _ _ 84 rfl 3 Try.underlying84 w.heap.size _ _ rfl HM1.out (by have := HL.out; unfold maxLen; omega) st rfl HS2.out _ rfl ?_; clear tok4 k1 k2; intro w2 hm2 hg2; have hb2 := (hg2.block wr.heap.size (by omega) (by simp; omega)).trans HB1.out; have hz2 := hg2.size; have HB2 := Lib.hid hb2; have HM2 := Lib.hid hm2; have HG2 := Lib.hid hg2; clear hb2 hm2 hg2))
      -- the row at the edge's head
      have x2 : nrows w2 (w.heap.size + 3) (w.heap.size + 1) (ends (es.take k)).length fx (outs (ends (es.take k))) :=
        ((HX.out.alloc _).low HG1.out (by omega) (by omega)).low HG2.out (by omega) (by omega)
      obtain ⟨v0, hv0⟩ : ∃ v0, (fx (B sf)).getD (.slice none 0 0) = v0 := ⟨_, rfl⟩
      have own2 := x2.at (B sf)
      rw [hv0] at own2
      have LK : ∀ x, hmap x (w.heap.size + 1) (ends (es.take k)).length fx → (Instr.lookup 88 (.map (some (w.heap.size + 1))) (.string sf) false).run Try.prog x = .ok v0 x := by
        intro x hx
        have := hx.look Try.underlying88 (zero22 x) sf HS1.out
        rw [hv0] at this
        exact this
      have lk2 := LK _ x2.hmap
      have hnet2 : w2.heap[w.heap.size + 1 + 1]? = some (.cells #[.slice none 0 0, .map (some (w.heap.size + 1))] 90 (0, 0)) := by
        have e1 : (wr.alloc (.cells #[.string sf, .int .i64 pc, .string st] 50)).heap[w.heap.size + 2]? = wr.heap[w.heap.size + 2]? := Below.heap_alloc _ _ _ (by omega)
        have e2 := HG1.out.block (w.heap.size + 2) (by simp; omega) (by simp)
        have e3 := HG2.out.block (w.heap.size + 2) (by omega) (by simp)
        exact e3.trans (e2.trans (e1.trans HNET.out))
      have n1 := cell_of_block (j := 1) hnet2 rfl
      have e1 := cell_of_block (j := 0) HB2.out rfl
      have e2 := cell_of_block (j := 2) HB2.out rfl
      have hloc : v0.ownBlock = none ∨ ∃ j, v0.ownBlock = some j ∧ w.heap.size + 3 ≤ j ∧ j < w2.heap.size := by
        cases hv : v0.ownBlock with
        | none => exact .inl rfl
        | some j => exact .inr ⟨j, rfl, own2.lt j hv⟩
      have ne1 : v0.ownBlock ≠ some (w.heap.size + 1 + 1) := by rcases hloc with h | ⟨j, h, hj⟩ <;> rw [h] <;> simp <;> omega
      have ne2 : some (w.heap.size + 1) ≠ v0.ownBlock := by rcases hloc with h | ⟨j, h, hj⟩ <;> rw [h] <;> simp <;> omega
      have ne3 : v0.ownBlock ≠ some wr.heap.size := by
        intro h
        have := (HX.out.at (B sf)).lt wr.heap.size (by rw [hv0]; exact h)
        omega
      have X2 := Lib.hid x2
      have OWN2 := Lib.hid own2
      have LK' := Lib.hid LK
      have HV0 := Lib.hid hv0
      have HLOC := Lib.hid hloc
      have HNET2 := Lib.hid hnet2
      have hzz : w.heap.size + 3 < w2.heap.size := by omega
      have hzr : wr.heap.size < w2.heap.size := by omega
      clear x2 own2 LK hv0 hloc hnet2 hz1 hz2
      have lka := LK'.out w2.drew X2.out.hmap.drew
      have lkb := LK'.out (w2.alloc (.cells #[.string st] 9)).drew (X2.out.hmap.alloc _).drew
      clear lk2
      go_region_held3 (fun w' => w'.cell? ⟨w.heap.size + 1 + 1, 1, none⟩ = some (.map (some (w.heap.size + 1))) ∧ w'.cell? ⟨wr.heap.size, 0, none⟩ = some (.string sf) ∧ w'.cell? ⟨wr.heap.size, 2, none⟩ = some (.string st))
        (first
          | (go_split_ands
             refine ⟨by go_keep, by go_keep, by go_keep⟩)
          | (go_split_ands
             refine ⟨?_, ?_, ?_⟩
             · (rw [hgrow.cell_far _ (by simp; omega) (Ne.symm ne1)]; assumption)
             · (rw [hgrow.cell_far _ (by simp; omega) (Ne.symm ne3)]; assumption)
             · (rw [hgrow.cell_far _ (by simp; omega) (Ne.symm ne3)]; assumption))
          | (go_split_ands
             refine ⟨?_, ?_, ?_⟩
             · (rw [hg4.cell_far _ (by show _ < w3.heap.size; simp only; omega) (by simp)]; assumption)
             · (rw [hg4.cell_far _ (by show _ < w3.heap.size; simp only; omega) (by simp; omega)]; assumption)
             · (rw [hg4.cell_far _ (by show _ < w3.heap.size; simp only; omega) (by simp; omega)]; assumption)))
        ((refine step_append_lies _ (by rfl) _ _ _ (by rfl) (w.heap.size + 3) 9 i9 _ 1 16 Try.underlying22 hi9 hz90 hz91 hz92 rfl (by omega) v0 _ _ (by rfl) ((OWN2.out.alloc _).drew)
            ⟨w2.heap.size, 0, none⟩ 1 1 [.string st] (by rfl) (by rfl) (World.news_of_block (cs := #[.string st]) (t := 9) (fr := (0, 0)) (heap_alloc_new w2 _)) (by simp [Value.oneCell'])
            (by omega) (by have := HL.out; have := outs_length (ends (es.take k)) (B sf); unfold maxLen; omega) (by have := HL.out; have := outs_length (ends (es.take k)) (B sf); omega) (by simp; omega) (w2.heap.size + 1) (by simp) ?_; intro gg cap' w3 hown3 hgrow hat hlt3; have h3z : w2.heap.size + 1 ≤ w3.heap.size := Nat.le_trans (Nat.le_of_eq (by simp)) hgrow.size; obtain ⟨w4, hrun4, hm4, hg4⟩ := ((X2.out.hmap.alloc _).drew.kept hgrow ne2).update Try.underlying88 (by have := HL.out; unfold maxLen; omega) sf HS1.out (.slice (some ⟨gg, 0, none⟩) ((outs (ends (es.take k)) (B sf)).length + 1) cap')))
      all_goals
        go_wp2
        have hlt := HLT.out
        have hee := HEE.out
        go_roundw
        case measure => simp [intOf]; omega
        case rel =>
          refine ⟨k + 1, by omega, by go_num, ?_⟩
          have hE1 := ends_snoc es k _ hee
          have hsf : B sf = ef := by rw [HSF.out]; rfl
          have hst : B st = et := by rw [HST.out]; rfl
          have hne0 : some w.heap.size ≠ v0.ownBlock := by rcases HLOC.out with h | ⟨j, h, hj⟩ <;> rw [h] <;> simp <;> omega
          have m3 : hmap w3 w.heap.size (2 * (ends (es.take k)).length + 1 + 1) (upd (upd fm (B sf) (.int .i64 (wrap64 (c1 + 1)))) (B st) (.int .i64 (wrap64 (c2 + 1)))) :=
            ((HM2.out.alloc _).drew.kept hgrow hne0)
          have m4 := m3.kept hg4 (by simp)
          have hloc3 : (Value.slice (some ⟨gg, 0, none⟩) ((outs (ends (es.take k)) (B sf)).length + 1) cap').ownBlock = none ∨ (Value.slice (some ⟨gg, 0, none⟩) ((outs (ends (es.take k)) (B sf)).length + 1) cap').ownBlock = v0.ownBlock ∨
              ∃ j, (Value.slice (some ⟨gg, 0, none⟩) ((outs (ends (es.take k)) (B sf)).length + 1) cap').ownBlock = some j ∧ (w2.alloc (.cells #[.string st] 9)).drew.heap.size ≤ j := by
            rcases hat with h | h
            · exact .inr (.inl (by rw [h]; rfl))
            · exact .inr (.inr ⟨gg, rfl, by rw [h]; simp⟩)
          have hbk := ((X2.out.alloc (.cells #[.string st] 9)).drew).back (w1 := w3) (w2 := w4) (B sf) (xs' := outs (ends (es.take k)) (B sf) ++ [B st]) (by omega) (by rw [HV0.out]; exact hgrow)
            (by simpa [enc_U, HST.out, B_U] using hown3) (by rw [HV0.out]; exact hloc3) hm4 hg4
          have hbk' : nrows w4 (w.heap.size + 3) (w.heap.size + 1) (ends (es.take (k + 1))).length (upd fx (B sf) (.slice (some ⟨gg, 0, none⟩) ((outs (ends (es.take k)) (B sf)).length + 1) cap')) (outs (ends (es.take (k + 1)))) := by
            rw [hE1, outs_snoc, ← hsf, ← hst]
            simpa using hbk
          refine ⟨⟨_, m4.mono (by rw [hE1]; simp; omega), ?_, ?_⟩, ⟨_, hbk'⟩, ?_, ?_, ?_⟩
          · intro s v hv
            unfold upd at hv
            split at hv
            · cases hv; exact ⟨_, rfl⟩
            · split at hv
              · cases hv; exact ⟨_, rfl⟩
              · exact HM.out s v hv
          · intro s
            have hk0 := HK.out s
            rw [hE1]
            unfold upd
            by_cases e1 : s = B st
            · rw [if_pos e1]
              refine ⟨fun _ => ⟨ef, .inr ?_⟩, fun _ => rfl⟩
              rw [e1, hst]; simp
            · rw [if_neg e1]
              by_cases e2 : s = B sf
              · rw [if_pos e2]
                refine ⟨fun _ => ⟨et, .inl ?_⟩, fun _ => rfl⟩
                rw [e2, hsf]; simp
              · rw [if_neg e2, hk0]
                rw [hst] at e1
                rw [hsf] at e2
                constructor
                · rintro ⟨y, h | h⟩
                  · exact ⟨y, .inl (by simp [h])⟩
                  · exact ⟨y, .inr (by simp [h])⟩
                · rintro ⟨y, h | h⟩
                  · exact ⟨y, .inl (by simpa [e2] using h)⟩
                  · exact ⟨y, .inr (by simpa [e1] using h)⟩
          · have q1 : (w2.alloc (.cells #[.string st] 9)).drew.heap[w.heap.size + 2]? = w2.heap[w.heap.size + 2]? := Below.heap_alloc _ _ _ (by omega)
            have q2 := hgrow.block (w.heap.size + 2) (by simp; omega) (Ne.symm ne1)
            have q3 := hg4.block (w.heap.size + 2) (by omega) (by simp)
            exact q3.trans (q2.trans (q1.trans HNET2.out))
          · have b0 : Below w.heap.size w wr := HN.out.below
            have b1 : Below w.heap.size w w1 := (b0.alloc (by omega) _).grown HG1.out (by simp; omega) (fun j hj => by cases hj; omega)
            have b2 : Below w.heap.size w w2 := b1.grown HG2.out b1.size (fun j hj => by cases hj; omega)
            have b3 : Below w.heap.size w w3 := ((b2.alloc (by omega) _).drew).grown hgrow (by simp; omega) (fun j hj => by
              rcases HLOC.out with h | ⟨j', h, hj'⟩
              · rw [h] at hj; cases hj
              · rw [h] at hj; cases hj; omega)
            exact b3.grown hg4 b3.size (fun j hj => by cases hj; omega)
          · have := hg4.size
            omega
    · have hke : k = es.length := by omega
      subst hke
      rw [List.take_length] at hN
      clear HE
      obtain ⟨fm, hm, hmi, hmk⟩ := hN.met
      have HN := Lib.hid hN
      have HK := Lib.hid hmk
      have HH := Lib.hid hm
      have hlen : (ends es).length ≤ 100000 := by unfold ends; simp; omega
      have HL := Lib.hid hlen
      have HS5 := Lib.hid (sorted61 hm (by omega))
      clear hN hmi hmk hm hlen hk hlt
      go_wp2_with (first
        | (go_at_call 62; refine (keys62 _ _).mono ?_; rintro e w5 ⟨rfl, rfl⟩)
        | (go_at_call 61; refine HS5.out.mono ?_; rintro e w6 ⟨v, xs, rfl, hss, hmem, hxl, hrow, hb6⟩; obtain ⟨Av, cv, rfl⟩ := own_form hrow; have hn6 := ((hb6.block (w.heap.size + 1 + 1) (by have := HN.out.size; omega)).trans (Below.heap_alloc wr _ _ (by have := HN.out.size; omega))).trans HN.out.net; have c60 := cell_of_block (j := 0) hn6 rfl; have f60 := frozen_of_block (j := 0) hn6; have HN6 := Lib.hid hn6; have HB6 := Lib.hid hb6; have HROW := Lib.hid hrow; have HSS := Lib.hid hss; have HMEM := Lib.hid hmem; clear hn6 hb6 hrow hss hmem))
      obtain ⟨wo, rfl⟩ : ∃ wo : World, wo = wr := ⟨_, rfl⟩
      go_loopw [58] (fun i wr2 => ∃ j : Nat, j ≤ xs.length ∧ i = .int .i64 j ∧ Net2 w wr2 (ends es) (.slice Av xs.length cv) xs j) (fun i _ => xs.length - (intOf i).toNat)
      case atStart =>
        obtain ⟨fx, hx⟩ := HN.out.next
        have hz := HN.out.size
        have hzb := HB6.out.size
        simp only [World.size_alloc] at hzb
        have hx6 : nrows w6 (w.heap.size + 3) (w.heap.size + 1) (ends es).length fx (outs (ends es)) := (hx.alloc (.cells #[.map (some w.heap.size)] 84)).below HB6.out (by simp)
        refine ⟨0, Nat.zero_le _, rfl, ⟨?_, ?_, ⟨fx, ?_, ?_⟩, ?_, ?_⟩⟩
        · have := HN6.out
          simp only [World.setCell, Array.getElem?_modify]
          rw [if_pos trivial, show w.heap.size + 2 = w.heap.size + 1 + 1 from rfl, this]
          rfl
        · exact ownsRow_setCell_below (own_base HROW.out (by omega)) (by show w.heap.size + 1 + 1 < _; omega) _
        · have := hx6.low (grownBy_setCell w6 ⟨w.heap.size + 1 + 1, 0, none⟩ (.slice Av xs.length cv)) (by show w.heap.size + 1 ≠ _; simp) (by show w.heap.size + 1 + 1 < _; omega)
          simpa using this
        · intro s u hu
          cases hv : u.ownBlock with
          | none => exact .inl rfl
          | some k =>
            right
            intro e
            have h1 := (((hx.2.1 s).2 u hu).lt k hv).2
            have h2 := (HROW.out.lt k e.symm).1
            omega
        · have b5 := HN.out.below.alloc (by omega) (.cells #[.map (some w.heap.size)] 84)
          have b6 : Below w.heap.size w w6 := b5.trans (HB6.out.mono (by omega))
          exact b6.setCell (by show w.heap.size ≤ w.heap.size + 1 + 1; omega) _
        · simp [World.setCell]; omega
      case round =>
        obtain ⟨j, hj, rfl, hP⟩ := hrel
        by_cases hlt : j < xs.length
        · obtain ⟨fx, hx, hdist⟩ := hP.next
          obtain ⟨x, hxj⟩ : ∃ x, xs[j]? = some x := ⟨_, List.getElem?_eq_getElem hlt⟩
          obtain ⟨gv, cv', hform, hgv, _⟩ := hP.nodes.form (by omega)
          cases hform
          obtain ⟨sb, hsb⟩ : ∃ sb, sb = U x := ⟨_, rfl⟩
          have kx : wr.cell? ⟨gv, j, none⟩ = some (.string sb) := by
            rw [hP.nodes.cellAt j (by omega), List.getElem?_map, hxj, hsb]
            rfl
          have hBx : B sb = x := by rw [hsb]; rfl
          have hxmem : x ∈ xs := List.mem_of_getElem? hxj
          have hsx : sb.size ≤ maxLen := by
            obtain ⟨y, hy⟩ := (HK.out x).1 ((HMEM.out x).1 hxmem)
            have : ∃ e ∈ es, e.1 = x ∨ e.2.2 = x := by
              rcases hy with h | h
              · obtain ⟨e, he, h'⟩ := List.mem_map.1 h; cases h'; exact ⟨e, he, .inl rfl⟩
              · obtain ⟨e, he, h'⟩ := List.mem_map.1 h; cases h'; exact ⟨e, he, .inr rfl⟩
            obtain ⟨e, he, h'⟩ := this
            have := HS.out e he
            rw [hsb, size_U]
            unfold maxLen
            rcases h' with h' | h' <;> rw [← h'] <;> omega
          have hnot : x ∉ xs.take j := by
            intro hm
            obtain ⟨i, hi, e⟩ := List.mem_take_iff_getElem.1 hm
            have e2 : xs[j] = x := by rw [List.getElem?_eq_getElem hlt] at hxj; exact Option.some.inj hxj
            have hij := (List.pairwise_iff_getElem.1 HSS.out) i j (by omega) hlt (by omega)
            rw [e, e2] at hij
            exact Std.lt_irrefl hij
          obtain ⟨u0, hu0⟩ : ∃ u0, (fx (B sb)).getD (.slice none 0 0) = u0 := ⟨_, rfl⟩
          have ho : wr.ownsRow (w.heap.size + 3) 9 1 u0 (outs (ends es) x).length ((outs (ends es) x).map encStr) := by
            have := hx.at (B sb)
            rw [hu0, hBx, if_neg hnot] at this
            exact this
          have hol := outs_length (ends es) x
          have HP := Lib.hid hP
          have HX := Lib.hid hx
          have HD := Lib.hid hdist
          have HBX := Lib.hid hBx
          have HU0 := Lib.hid hu0
          have HSX := Lib.hid hsx
          have HO := Lib.hid ho
          have HNOT := Lib.hid hnot
          have HXJ := Lib.hid hxj
          have HLT := Lib.hid hlt
          have HOL := Lib.hid hol
          have lt0 : (j : Int) < (xs.length : Int) := by omega
          have c61 := cell_of_block (j := 1) hP.net rfl
          have hjb : j ≤ 1000000 := by have := HL.out; omega
          clear hP hx hdist hBx hu0 hsx ho hnot hxj hsb hxmem hlt hol
          go_wp2_with (first
            | (at_lookup; refine wpList_lookup_h _ rfl _ _ 88 rfl 22 Try.underlying88 (.slice none 0 0) (zero22 _) (w.heap.size + 1) _ fx rfl HX.out.hmap sb rfl HSX.out u0 HU0.out ?_)
            | (go_at_call 86; refine (sort86 HO.out (by have := HOL.out; have := HL.out; omega)).mono ?_; rintro e w7 ⟨rfl, hown7, hg7⟩))
          have hloc : u0.ownBlock = none ∨ ∃ j, u0.ownBlock = some j ∧ w.heap.size + 3 ≤ j ∧ j < wr.heap.size := by
            cases hv : u0.ownBlock with
            | none => exact .inl rfl
            | some j => exact .inr ⟨j, rfl, HO.out.lt j hv⟩
          have ne1 : u0.ownBlock ≠ some (w.heap.size + 1 + 1) := by rcases hloc with h | ⟨j, h, hj⟩ <;> rw [h] <;> simp <;> omega
          have ne2 : some (w.heap.size + 1) ≠ u0.ownBlock := by rcases hloc with h | ⟨j, h, hj⟩ <;> rw [h] <;> simp <;> omega
          have hzr := HP.out.size
          have c71 : w7.cell? ⟨w.heap.size + 1 + 1, 1, none⟩ = some (.map (some (w.heap.size + 1))) := (hg7.cell_far ⟨w.heap.size + 1 + 1, 1, none⟩ (by show w.heap.size + 1 + 1 < wr.heap.size; omega) (Ne.symm ne1)).trans c61
          have hm7 := HX.out.hmap.kept hg7 ne2
          have lk7 : (Instr.lookup 88 (.map (some (w.heap.size + 1))) (.string sb) false).run Try.prog w7.drew = .ok u0 w7.drew := by
            have := hm7.drew.look Try.underlying88 (zero22 _) sb HSX.out
            rw [HU0.out] at this
            exact this
          have hz7 := hg7.size
          have HM7 := Lib.hid hm7
          have HG7 := Lib.hid hg7
          have HO7 := Lib.hid hown7
          have ho7d : w7.drew.ownsRow (w.heap.size + 3) 9 1 u0 ((outs (ends es) x).mergeSort fun a b => decide (a ≤ b)).length (((outs (ends es) x).mergeSort fun a b => decide (a ≤ b)).map encStr) := by
            rw [List.length_mergeSort]; exact hown7
          have hb7 : ((outs (ends es) x).mergeSort fun a b => decide (a ≤ b)).length ≤ 1000000 := by
            have := HOL.out; have := HL.out; rw [List.length_mergeSort]; omega
          have HC7 := Lib.hid (compact87 ho7d hb7)
          clear ho7d hb7
          have HLOC := Lib.hid hloc
          have hroom : Hid ((ends es).length + j < maxLen) := Lib.hid (by have := HL.out; unfold maxLen; omega)
          clear hm7 hg7 hown7 hloc c61 kx
          go_region_held3 (fun w' => w'.cell? ⟨w.heap.size + 1 + 1, 1, none⟩ = some (.map (some (w.heap.size + 1))))
            (first
              | go_keep
              | (rw [hg8.cell_far ⟨w.heap.size + 1 + 1, 1, none⟩ (by show w.heap.size + 1 + 1 < w7.heap.size; omega) (Ne.symm ne1)]; assumption)
              | (rw [hg9.cell_far ⟨w.heap.size + 1 + 1, 1, none⟩ (by show w.heap.size + 1 + 1 < w8.heap.size; omega) (by simp)]; assumption))
            ((go_at_call 87; refine HC7.out.mono ?_; rintro e w8 ⟨v', rfl, hown8, hg8, hob⟩; have h8z : w7.heap.size ≤ w8.heap.size := hg8.size; obtain ⟨w9, hrun9, hm9, hg9⟩ := (HM7.out.drew.kept hg8 ne2).update Try.underlying88 hroom.out sb HSX.out v'))
          go_wp2
          go_roundw
          case measure => have hq := HLT.out; simp [intOf]; omega
          case rel =>
            refine ⟨j + 1, by have := HLT.out; omega, by go_num, ?_⟩
            have g7 := HG7.out
            have hP := HP.out
            have hx := HX.out
            have hbx := HBX.out
            have hdv : (Value.slice (some ⟨gv, 0, none⟩) xs.length cv).ownBlock = none ∨ (Value.slice (some ⟨gv, 0, none⟩) xs.length cv).ownBlock ≠ u0.ownBlock := by
              cases hf : fx (B sb) with
              | none =>
                have := HU0.out
                rw [hf] at this
                rw [← this]
                right; simp [Value.ownBlock]
              | some u =>
                have h0 := HU0.out
                rw [hf] at h0
                have h1 : u = u0 := h0
                rw [← h1]
                rcases HD.out _ _ hf with h | h
                · right; rw [h]; simp [Value.ownBlock]
                · exact .inr (Ne.symm h)
            have hvx : (Value.slice (some ⟨gv, 0, none⟩) xs.length cv).ownBlock = none ∨ (Value.slice (some ⟨gv, 0, none⟩) xs.length cv).ownBlock ≠ some (w.heap.size + 1) := by
              right
              intro e
              have := (hP.nodes.lt gv rfl).1
              have e2 := Option.some.inj e
              have e3 : gv = w.heap.size + 1 := e2
              omega
            have n7 := hx.touch (B sb) (w1 := w7) (xs' := (outs (ends es) x).mergeSort fun a b => decide (a ≤ b)) (by omega) (by rw [HU0.out]; exact g7) (by rw [HU0.out, List.length_mergeSort]; exact HO7.out)
            have n9 := n7.drew.back (B sb) (w1 := w8) (w2 := w9) (v' := v') (xs' := sortc (outs (ends es) x)) (by omega) (by rw [HU0.out]; exact hg8) hown8 (by rw [HU0.out]; exact .inr (.inl hob)) hm9 hg9
            refine ⟨?_, ?_, ⟨upd fx (B sb) v', ?_, ?_⟩, ?_, ?_⟩
            · have q1 := g7.block (w.heap.size + 2) (by omega) (Ne.symm ne1)
              have q2 := hg8.block (w.heap.size + 2) (by show _ < w7.heap.size; omega) (Ne.symm ne1)
              have q3 := hg9.block (w.heap.size + 2) (by have := hg8.size; have : w7.heap.size ≤ w8.heap.size := this; omega) (by simp)
              exact q3.trans (q2.trans (q1.trans hP.net))
            · have o7 := hP.nodes.kept g7 hdv
              have o8 := (show w7.drew.ownsRow _ _ _ _ _ _ from o7).kept hg8 hdv
              exact o8.kept hg9 hvx
            · have hg : updL (updL (fun s => if s ∈ xs.take j then sortc (outs (ends es) s) else outs (ends es) s) (B sb) ((outs (ends es) x).mergeSort fun a b => decide (a ≤ b))) (B sb) (sortc (outs (ends es) x)) =
                  fun s => if s ∈ xs.take (j + 1) then sortc (outs (ends es) s) else outs (ends es) s := by
                funext s
                unfold updL
                rw [List.take_add_one, HXJ.out]
                by_cases e : s = B sb
                · rw [if_pos e, e, hbx, if_pos (by simp)]
                · rw [if_neg e, if_neg e]
                  show (if s ∈ xs.take j then sortc (outs (ends es) s) else outs (ends es) s) = _
                  rw [hbx] at e
                  by_cases hm : s ∈ xs.take j
                  · rw [if_pos hm, if_pos (by simp [hm])]
                  · rw [if_neg hm, if_neg (by simp [hm, e])]
              rw [hg] at n9
              exact n9
            · intro s u hu
              unfold upd at hu
              split at hu
              · cases hu
                rw [hob]
                rcases hdv with h | h
                · cases h
                · exact .inr (Ne.symm h)
              · exact HD.out s u hu
            · have hl : ∀ k, u0.ownBlock = some k → w.heap.size ≤ k := by
                intro k hk
                have := (HO.out.lt k hk).1
                omega
              have b7 := hP.below.grown g7 (by omega) hl
              have b8 := (b7.drew).grown hg8 b7.size hl
              exact b8.grown hg9 b8.size (fun k hk => by cases hk; omega)
            · have := hg9.size
              have h8 : w7.heap.size ≤ w8.heap.size := hg8.size
              omega
        · obtain rfl : j = xs.length := by omega
          have HP := Lib.hid hP
          clear hP hj hlt
          go_wp2_with fail
          go_ret
          have hP := HP.out
          obtain ⟨fx, hx, _⟩ := hP.next
          refine ⟨rfl, ⟨_, xs, _, _, fx, hP.net, hx.hmap, own_base hP.nodes (Nat.zero_le _), ⟨HSS.out, fun s => ?_⟩, by have := HL.out; omega, fun s => ?_⟩, hP.below⟩
          · rw [HMEM.out s]; exact HK.out s
          · have ho := hx.at s
            rw [List.take_length] at ho
            have hmo : ∀ y, y ∈ outs (ends es) s ↔ (s, y) ∈ ends es := by
              intro y
              unfold outs
              rw [List.mem_map]
              constructor
              · rintro ⟨⟨a, c⟩, h, rfl⟩
                rw [List.mem_filter] at h
                have : a = s := by simpa using h.2
                subst this
                exact h.1
              · intro h
                exact ⟨(s, y), by rw [List.mem_filter]; exact ⟨h, by simp⟩, rfl⟩
            by_cases hm : s ∈ xs
            · rw [if_pos hm] at ho
              have hc := compact_sorted (outs (ends es) s)
              refine ⟨_, ⟨hc.1, fun y => (hc.2 y).trans (hmo y)⟩, ?_, own_base ho (Nat.zero_le _)⟩
              have h1 := outs_length (ends es) s
              have h2 : (sortc (outs (ends es) s)).length ≤ (outs (ends es) s).length := by
                unfold sortc Go.Lib.compact Go.Lib.compactUpTo
                rw [List.length_map]
                refine Nat.le_trans (List.length_filter_le _ _) ?_
                rw [List.length_range, List.length_mergeSort]
                exact Nat.le_refl _
              have := HL.out
              show (sortc _).length ≤ _
              omega
            · rw [if_neg hm] at ho
              have hno : ∀ y, (s, y) ∉ ends es := fun y h => hm ((HMEM.out s).2 ((HK.out s).2 ⟨y, .inl h⟩))
              have he : outs (ends es) s = [] := by
                rw [List.eq_nil_iff_forall_not_mem]
                exact fun y h => hno y ((hmo y).1 h)
              rw [he] at ho
              exact ⟨[], ⟨List.Pairwise.nil, fun y => ⟨(fun h => nomatch h), fun h => absurd h (hno y)⟩⟩, by simp, own_base ho (Nat.zero_le _)⟩
end Go.Proofs.Ytljfknneijmfoaa
