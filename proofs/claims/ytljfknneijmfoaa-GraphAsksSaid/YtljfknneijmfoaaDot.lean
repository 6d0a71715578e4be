import Derived.Test.YtljfknneijmfoaaBld
import Derived.Test.YtljfknneijmfoaaNet
namespace Go.Proofs.Ytljfknneijmfoaa
open Go.RowKit Go.Maps Go.WideMaps Go.Lib

theorem ownF_block {w w' : World} {base : Nat} {e : TypeId} {size : Nat} {v : Value} {n : Nat} {xs : List Value} (h : w.ownsRowF base e size v n xs) (hk : ∀ j, j < w.heap.size → w'.heap[j]? = w.heap[j]?) : w'.ownsRowF base e size v n xs := by
  obtain ⟨h1, h2⟩ := h
  refine ⟨h1, h2.imp (fun x => x) ?_⟩
  rintro ⟨g, cap, cur, fz, h3, h4, h5, h6⟩
  exact ⟨g, cap, cur, fz, h3, h4, (hk g (Array.getElem?_eq_some_iff.1 h5).1).trans h5, h6⟩

theorem builder_keep {T e : TypeId} {B b : Nat} {bs : List Value} {w w' : World} (h : Lib.IsBuilderF T e B b bs w) (hk : ∀ j, j < w.heap.size → w'.heap[j]? = w.heap[j]?) : Lib.IsBuilderF T e B b bs w' := by
  have key : ∀ p, Lib.BuilderAtF T e B b p bs w → Lib.BuilderAtF T e B b p bs w' := by
    rintro p ⟨h1, v, h2, h3, h4⟩
    exact ⟨h1, v, by rw [hk b (Array.getElem?_eq_some_iff.1 h2).1]; exact h2, ownF_block h3 hk, h4⟩
  exact h.imp (key _) (key _)

theorem builder_bytes {l : List UInt8} {s : ByteArray} : Lib.byteCells l ++ Lib.strCells s = Lib.byteCells (l ++ s.data.toList) := by
  rw [Lib.strCells_eq, ← Lib.byteCells_append]

def dotNil : ByteArray := ⟨#[100, 105, 103, 114, 97, 112, 104, 32, 123, 10, 125, 10]⟩

set_option maxRecDepth 100000 in
set_option maxHeartbeats 4000000 in
/-- Nothing is written as a graph that is empty. -/
theorem dotNil48 (w : World) : Calls Try.prog 48 #[.slice none 0 0] w fun e w' => e = .returned (.string dotNil) ∧ Below w.heap.size w w' := by
  obtain ⟨w0, hw0⟩ : ∃ w0, w0 = w.alloc (.cells #[.pointer none, .slice none 0 0] 108) := ⟨_, rfl⟩
  have h0 : Lib.IsBuilderF 108 5 w.heap.size w.heap.size [] w0 := by rw [hw0]; exact Lib.IsBuilderF.of (Lib.fresh_isBuilder 108 5 w)
  have b0 : Below w.heap.size w w0 := by rw [hw0]; exact (Below.refl _ w).alloc (Nat.le_refl _) _
  have H57 := Lib.hid (netOf57 none 0 [] w0 (fun k e he => (by simp at he)) (Nat.zero_le _) (fun e he => (by cases he)))
  go_enter Try.func48, Try.ntmps48
  go_upto_region 2 with (fail)
  rw [← hw0]
  clear hw0
  go_upto_region 3 with (go_at_call 57; refine H57.out.mono ?_; rintro ee w1 ⟨rfl, hN1, hB1⟩; have HN1 := Lib.hid hN1; have HB1 := Lib.hid hB1; clear hN1 hB1)
  obtain ⟨v0, xs, bx, n0, f0, hp, hmx, hox, hX, hxl, _⟩ := HN1.out
  have hxs : xs = [] := by
    cases xs with
    | nil => rfl
    | cons x r =>
      obtain ⟨y, hy | hy⟩ := (hX.2 x).1 List.mem_cons_self
      · cases hy
      · cases hy
  subst hxs
  obtain ⟨Ax, cx, rfl⟩ := own_form hox
  have h1 : Lib.IsBuilderF 108 5 w.heap.size w.heap.size (Lib.byteCells []) w1 := builder_keep h0 (fun j hj => HB1.out.block j hj)
  have z1 := HB1.out.size
  have z0 := b0.size
  have HH1 := Lib.hid h1
  have HP := Lib.hid hp
  have hpl := (Array.getElem?_eq_some_iff.1 hp).1
  clear hp hmx hox hX hxl h1 H57
  go_upto_region 4 with (go_at_call 78; refine (Try.Builder_WriteString w.heap.size w.heap.size _ _ w1 HH1.out (by simp [Lib.byteCells]; try decide) (by omega)).mono ?_; rintro ee w2 ⟨rfl, hh2, hB2, hO2⟩; have HO2 := Lib.hid hO2; have HH2 := Lib.hid hh2; have HB2 := Lib.hid hB2; clear hh2 hB2 hO2)
  have k0 := cell_of_block (j := 0) (HO2.out _ _ HP.out (fun e => by have := Option.some.inj e; omega) (fun c fz e => by injection e with _ e _; cases e)) rfl
  go_wp2
  clear k0
  go_loopw [17] (fun i wr => i = .int .i64 0 ∧ wr = w2) (fun i _ => 0)
  case atStart => exact ⟨rfl, rfl⟩
  case round =>
    obtain ⟨rfl, rfl⟩ := hrel
    have HH2' : Hid (Lib.IsBuilderF 108 5 w.heap.size w.heap.size (Lib.byteCells ([] ++ ([100, 105, 103, 114, 97, 112, 104, 32, 123, 10] : List UInt8))) wr) := Lib.hid (Or.inr (by have h := HH2.out; rw [builder_bytes] at h; exact h))
    have z2 := HB2.out.size
    go_wp2_with (first
      | (go_at_call 78; refine (Try.Builder_WriteString w.heap.size w.heap.size _ _ wr HH2'.out (by simp [Lib.byteCells]; try decide) (by omega)).mono ?_; rintro ee w3 ⟨rfl, hh3, hB3, _⟩; have HH3 : Hid (Lib.IsBuilderF 108 5 w.heap.size w.heap.size (Lib.byteCells (([] ++ ([100, 105, 103, 114, 97, 112, 104, 32, 123, 10] : List UInt8)) ++ ([125, 10] : List UInt8))) w3) := Lib.hid (Or.inr (by have h := hh3; rw [builder_bytes] at h; exact h)); have HB3 := Lib.hid hB3; clear hh3 hB3; have z3 := HB3.out.size)
      | (go_at_call 79; refine (Try.Builder_String_any w.heap.size w.heap.size _ _ HH3.out (by omega)).mono ?_; rintro ee w4 ⟨rfl, _, hB4, _⟩; have HB4 := Lib.hid hB4; clear hB4))
    go_ret
    exact ⟨rfl, b0.trans ((HB1.out.mono z0).trans (HB2.out.trans (HB3.out.trans HB4.out)))⟩
end Go.Proofs.Ytljfknneijmfoaa
