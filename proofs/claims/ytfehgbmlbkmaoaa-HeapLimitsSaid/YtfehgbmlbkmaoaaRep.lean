import Derived.Test.YtfehgbmlbkmaoaaLeaf
import Derived.Laws.CopyRow
import Derived.Lib.SlBuf
import Derived.Laws.MakeOwn
import Derived.OwnWalk
namespace Go.Proofs.Ytfehgbmlbkmaoaa
open Go.RowKit Go.Maps Go.WideMaps
attribute [local go_sem] run_store_complex

theorem info31 : (Try.prog.info? 31).map (fun i => (i.zero, i.size, i.bytes)) = some (some (.agg #[.int .i64 0, .int .i64 0, .complex .f64 0 0]), 3, 32) := by kernel_rfl

/-- A cell of a value that is zero. -/
def zc (j : Nat) : Value := if j % 3 = 2 then .complex .f64 0 0 else .int .i64 0

theorem zc_one (j : Nat) : (zc j).oneCell' = true := by unfold zc; split <;> rfl

theorem zc_mod (i j : Nat) : zc (3 * i + j) = zc j := by unfold zc; rw [show (3 * i + j) % 3 = j % 3 by omega]

/-- So many zero values in a row. -/
def Zeros (cur : Array Value) : Prop := ∀ j, j < cur.size → cur[j]? = some (zc j)

/-- A copy of zeros over zeros turns nothing. -/
theorem run_copy_zeros (w : World) (ty : TypeId) (g o dLen dCap : Nat) (a : Addr) (sLen sCap : Nat) (cur : Array Value) (hg : w.heap[g]? = some (.cells cur 31 (0, 0))) (hz : Zeros cur) (i m : Nat) (ho : o = 3 * i) (hm : m = Nat.min sLen dLen) (hfit : o + 3 * m ≤ cur.size)
    (hsrc : ∀ j, j < 3 * m → w.cell? (a.add j) = some (zc j)) :
    (Builtin.copy_ #[44, 44] ty #[.slice (some ⟨g, o, none⟩) dLen dCap, .slice (some a) sLen sCap]).run Try.prog w = .ok (goInt m) w := by
  obtain ⟨cs, hcs⟩ : ∃ cs, cs = (List.range (3 * m)).map zc := ⟨_, rfl⟩
  have hl : cs.length = 3 * m := by rw [hcs]; simp
  have hget : ∀ j, j < 3 * m → cs[j]? = some (zc j) := fun j hj => by rw [hcs]; simp [hj]
  have h1 : ∀ v ∈ cs, v.oneCell' = true := fun v hv => by
    rw [hcs] at hv
    obtain ⟨j, _, rfl⟩ := List.mem_map.1 hv
    exact zc_one j
  have hld := run_loadCells_list (P := Try.prog) w a cs (fun j v hj => by
    have hj' : j < 3 * m := by rw [← hl]; exact (List.getElem?_eq_some_iff.1 hj).1
    rw [hget j hj'] at hj
    cases hj
    exact hsrc j hj')
  have hst := run_storeCells_at Try.prog g o 31 cs 0 cur w hg (by rw [hl]; omega) h1
  have hsame : (cur.toList.take (o + 0) ++ cs ++ cur.toList.drop (o + 0 + cs.length)).toArray = cur := by
    apply Array.ext_getElem?
    intro j
    rw [List.getElem?_toArray, Nat.add_zero, hl]
    by_cases h2 : j < o
    · rw [List.append_assoc, List.getElem?_append_left (by simp; omega), List.getElem?_take_of_lt h2]
      simp
    · by_cases h3 : j < o + 3 * m
      · rw [List.getElem?_append_left (by simp; omega), List.getElem?_append_right (by simp; omega), List.length_take, Nat.min_eq_left (by simp; omega), hget _ (by omega), hz j (by omega)]
        rw [← zc_mod i (j - o), ← ho, show o + (j - o) = j by omega]
      · rw [List.getElem?_append_right (by simp; omega), List.length_append, List.length_take, Nat.min_eq_left (by simp; omega), hl, List.getElem?_drop, show o + 3 * m + (j - (o + 3 * m)) = j by omega]
        simp
  rw [hsame, setRow_self w g cur 31 (0, 0) hg] at hst
  obtain ⟨q, hq, hq0, hq1, hq2⟩ := info_parts info31
  have hu := Try.underlying44
  rw [hl] at hld
  simp [Builtin.copy_, run_underlying hu, Builtin.lenOf, Builtin.firstCells, sizeOf, typeInfo, hq, hq1, ← hm]
  rw [Nat.mul_comm m 3, hld]
  simp [hst]

theorem first_pos (n : Nat) : n = 0 ∨ 0 < Nat.min 1 n := by
  rcases Nat.eq_zero_or_pos n with h | h
  · exact .inl h
  · exact .inr (by show 0 < min 1 n; omega)

theorem mulOne (n : Nat) (h : n ≤ 100) (w : World) : Calls Try.prog 20 #[.int .u64 1, .int .u64 n] w fun e w' => e = .returned (.tuple #[.int .u64 0, .int .u64 n]) ∧ w' = w := by
  refine (Try.bits_Mul 1 n (by omega) (by omega) w).mono ?_
  rintro e w' ⟨rfl, rfl⟩
  refine ⟨?_, rfl⟩
  rw [Nat.one_mul, show n / 18446744073709551616 = 0 by omega, show n % 18446744073709551616 = n by omega]
  rfl

theorem zeros_made {w : World} {base g n : Nat} (h : w.ownsRow base 31 3 (.slice (some ⟨g, 0, none⟩) n n) n (madeCells (Value.agg #[.int .i64 0, .int .i64 0, .complex .f64 0 0]).cells (n * 3)).toList) :
    ∃ cur, w.heap[g]? = some (.cells cur 31 (0, 0)) ∧ Zeros cur ∧ cur.size = 3 * n := by
  rcases h.2 with ⟨he, _⟩ | ⟨g', cap, cur, he, _, hh, _, _, hcs, ht⟩
  · cases he
  · injection he with ha _ hc
    injection ha with ha
    injection ha with ha _ _
    subst ha hc
    refine ⟨cur, hh, fun j hj => ?_, by omega⟩
    rw [hcs] at hj
    have h1 : (cur.toList.take (n * 3))[j]? = some (zc j) := by
      rw [ht]
      unfold madeCells zc
      simp only [Value.cells, Array.getElem?_toList, Array.getElem?_map, Array.getElem?_range, hj, if_true, Option.map_some]
      rcases (show j % 3 = 0 ∨ j % 3 = 1 ∨ j % 3 = 2 by omega) with h | h | h
      · simp [h]
      · simp [h]
      · simp [h]
    rw [List.getElem?_take_of_lt hj] at h1
    simpa using h1

set_option maxRecDepth 100000 in
set_option maxHeartbeats 4000000 in
/-- slices.Repeat of one zero value. -/
theorem repeat13 (b n : Nat) (hn : n ≤ 100) (w : World) (hb : w.heap[b]? = some (.cells #[.int .i64 0, .int .i64 0, .complex .f64 0 0] 31 (0, 0))) :
    Calls Try.prog 13 #[.slice (some ⟨b, 0, none⟩) 1 1, .int .i64 n] w fun e w' => e = .returned (.slice (some ⟨w.heap.size, 0, none⟩) n n) ∧ (∃ cur, w'.heap[w.heap.size]? = some (.cells cur 31 (0, 0)) ∧ Zeros cur ∧ cur.size = 3 * n) ∧ Below w.heap.size w w' := by
  obtain ⟨q, hq, hq0, hq1, hq2⟩ := info_parts info31
  have HM := Lib.hid (mulOne n hn)
  have hbl := (Array.getElem?_eq_some_iff.1 hb).1
  have HBB := Lib.hid hb
  clear hb
  go_enter Try.func13, Try.ntmps13
  have i1 : (0 : Int) ≤ (n : Int) := by omega
  have hlt0 : ¬ ((n : Int) < 0) := by omega
  go_upto_region 6 with (go_at_call 20; (with_reducible refine ((HM.out _).mono ?_)); rintro e w1 ⟨rfl, rfl⟩)
  go_upto_region 7 with (at_make; refine wpList_make_full w1 (by rfl) _ _ 44 (by rfl) w1.heap.size 31 q _ 3 Try.underlying44 hq hq0 hq1 .i64 .i64 _ _ n (by rfl) (by rfl) (by rfl) (by rfl) (by rw [hq2]; omega) (by unfold maxLen; omega) (Nat.le_refl _) ?_; intro w2 hown hg; have HOWN := Lib.hid hown; have HG := Lib.hid hg; clear hown hg)
  obtain ⟨cur, hcur, hz, hsz⟩ := zeros_made HOWN.out
  have hb2 : w2.heap[b]? = some (.cells #[.int .i64 0, .int .i64 0, .complex .f64 0 0] 31 (0, 0)) := by rw [HG.out.block b hbl (fun e => by cases e)]; exact HBB.out
  have HB2 := Lib.hid ((Below.refl w1.heap.size w1).grown HG.out (Nat.le_refl _) (fun q hq => by cases hq))
  have HCUR := Lib.hid hcur
  have HZ := Lib.hid hz
  have hsrc0 : ∀ j, j < 3 → w2.cell? ((⟨b, 0, none⟩ : Addr).add j) = some (zc j) := fun j hj => by
    rcases (show j = 0 ∨ j = 1 ∨ j = 2 by omega) with rfl | rfl | rfl
    · exact cell_of_block (j := 0) hb2 rfl
    · exact cell_of_block (j := 1) hb2 rfl
    · exact cell_of_block (j := 2) hb2 rfl
  have HR0 := Lib.hid (run_copy_zeros w2 3 w1.heap.size 0 n n ⟨b, 0, none⟩ 1 1 cur hcur hz 0 (Nat.min 1 n) (by omega) rfl (by have : Nat.min 1 n ≤ n := Nat.min_le_right _ _; omega) (fun j hj => hsrc0 j (by have : Nat.min 1 n ≤ 1 := Nat.min_le_left _ _; omega)))
  clear hcur hz hb2 hsrc0
  have hr0 := HR0.out
  go_wp2
  clear hr0
  go_loopw [8] (fun i wr => ∃ m : Nat, m ≤ n ∧ (n = 0 ∨ 0 < m) ∧ i = .int .i64 m ∧ Below w2.heap.size w2 wr) (fun i _ => n - (intOf i).toNat)
  case atStart => exact ⟨Nat.min 1 n, Nat.min_le_right _ _, first_pos n, rfl, Below.refl _ _⟩
  case round =>
    obtain ⟨m, hm, hpos, rfl, hB⟩ := hrel
    have HB := Lib.hid hB
    have hg3 : wr.heap[w1.heap.size]? = some (.cells cur 31 (0, 0)) := (hB.block _ (Array.getElem?_eq_some_iff.1 HCUR.out).1).trans HCUR.out
    by_cases hlt : m < n
    · have hm0 : 0 < m := by omega
      obtain ⟨mm, hmm⟩ : ∃ mm, mm = Nat.min m (n - m) := ⟨_, rfl⟩
      have hmm1 : mm ≤ n - m := by rw [hmm]; exact Nat.min_le_right _ _
      have hmm2 : 0 < mm := by rw [hmm]; show 0 < min m (n - m); omega
      have HR1 := Lib.hid (run_copy_zeros wr.drew 3 w1.heap.size (m * 3) (n - m) (n - m) ⟨w1.heap.size, 0, none⟩ m n cur hg3 HZ.out m mm (by omega) hmm (by omega) (fun j hj => by
        have h := cell_of_block (w := wr.drew) (j := j) hg3 (HZ.out j (by omega))
        have e : (⟨w1.heap.size, 0, none⟩ : Addr).add j = ⟨w1.heap.size, j, none⟩ := by unfold Addr.add; split <;> simp_all
        rw [e]
        exact h))
      have i2 : (0 : Int) ≤ (m : Int) := by omega
      have i3 : (m : Int) ≤ (n : Int) := by omega
      have i4 : (m : Int) < (n : Int) := by omega
      have hr1 := HR1.out
      have hw : IntKind.i64.wrap ((m : Int) + (mm : Int)) = (m : Int) + (mm : Int) := by rw [IntKind.wrap_i64]; omega
      clear hB hg3 hmm
      go_upto_region 9 with (fail)
      have hcur := (Below.refl wr.heap.size wr).drew
      go_region_held3 (fun w' => Below wr.heap.size wr w')
        (exact hcur)
        (fail)
      all_goals
        go_wp2
        go_roundw
        case measure => simp [intOf]; omega
        case rel => exact ⟨m + mm, by omega, .inr (by omega), by simp, HB.out.trans (hcur.mono HB.out.size)⟩
    · have hme : m = n := by omega
      subst hme
      go_wp2
      go_ret
      exact ⟨rfl, ⟨cur, hg3, HZ.out, hsz⟩, HB2.out.trans (HB.out.mono HB2.out.size)⟩
end Go.Proofs.Ytfehgbmlbkmaoaa
