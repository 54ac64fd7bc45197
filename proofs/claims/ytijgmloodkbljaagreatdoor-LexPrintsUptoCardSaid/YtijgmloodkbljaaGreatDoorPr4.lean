import Derived.Test.YtijgmloodkbljaaGreatDoorPr3
namespace Go.Proofs.YtijgmloodkbljaaGreatDoor
open Go Go.RowKit

theorem f212_int (n : Int) (w : World) : Calls Tryz.prog 212 #[.agg #[.int .i64 1, .int .i64 n, .string ⟨#[]⟩, .slice none 0 0], .int .i64 1] w (Ret (.bool true) w) := by
  go_enter Tryz.func212, Tryz.ntmps212
  go_wp2
  go_ret
  exact ⟨rfl, ((Below.refl _ _).alloc (Nat.le_refl _) _).alloc (by simp) _⟩
theorem f129_int (n : Int) (w : World) : Calls Tryz.prog 129 #[.agg #[.int .i64 1, .int .i64 n, .string ⟨#[]⟩, .slice none 0 0]] w (Ret (.int .i64 0) w) := by
  go_enter Tryz.func129, Tryz.ntmps129
  go_wp2_with (go_at_call 212; refine (f212_int n _).mono ?_; rintro e w1 ⟨rfl, h1⟩)
  go_wp2
  go_ret
  exact ⟨rfl, below_box h1⟩

theorem results_cell_tmp2 {P : Program} {fn : Func} {p u1 u2 : Tmp} {ty : TypeId} (h : fn.results = #[.cell p ty, .tmp u1, .tmp u2]) (tmps : Array Value) (w : World) (a : Addr) (v : Value) (hp : tmps.getD p undef = .pointer (some a)) (hl : (loadVar ty a).run P w = .ok v w) :
    (results fn tmps).run P w = .ok (.tuple #[v, tmps.getD u1 undef, tmps.getD u2 undef]) w := by
  have q0 : tmps[p]?.getD undef = .pointer (some a) := by simpa using hp
  simp only [results, h]
  simp [Sem.run_bind, Result.andThen, asAddr, q0, hl]

set_option maxHeartbeats 4000000 in
set_option maxRecDepth 100000 in
theorem f93_one (w : World) : Calls Tryz.prog 93 #[.string one1] w (Ret (.tuple #[vOne, .int .i64 0, .int .i64 0]) w) := by
  go_enter Tryz.func93, Tryz.ntmps93
  go_wp2_with fail
  refine (f175_one _).mono ?_
  rintro e w1 ⟨rfl, h1⟩
  have hz1 := alloc_kept h1
  have hb1 := below_box h1
  go_wp2_with fail
  refine (f129_int 1 _).mono ?_
  rintro e w2 ⟨rfl, h2⟩
  have hx2 := alloc_kept h2
  have hl1 : w.heap.size < w1.heap.size := (Array.getElem?_eq_some_iff.1 hz1).1
  have hz2 : w2.heap[w.heap.size]? = _ := (h2.block w.heap.size (by simp; omega)).trans ((heap_alloc_old' w1 _ _ hl1).trans hz1)
  have hb2 : Below w.heap.size w w2 := hb1.trans ((below_box h2).mono (Nat.le_of_lt hl1))
  have hne : Hid (w1.heap.size ≠ w.heap.size) := by unfold Hid; omega
  generalize hb : w.heap.size = b at hz2 hne
  have HB := Lib.hid hb
  generalize w1.heap.size = b5 at *
  clear h1 h2 hb1 hz1 hl1
  obtain ⟨⟨x0, x1, x2, x3⟩, _⟩ := four_of hx2
  obtain ⟨⟨z0, z1, z2, z3⟩, y0, y1, y2, y3⟩ := four_of hz2
  obtain ⟨hA, gA⟩ := set4 (v0 := .int .i64 1) (v1 := .int .i64 1) (v2 := .string ⟨#[]⟩) (v3 := .slice none 0 0) hz2
  have hfin : Below w.heap.size w ((((w2.setCell ⟨b, 0, none⟩ (.int .i64 1)).setCell ⟨b, 1, none⟩ (.int .i64 1)).setCell ⟨b, 2, none⟩ (.string ⟨#[]⟩)).setCell ⟨b, 3, none⟩ (.slice none 0 0)) := by
    have := HB.out
    exact hb2.trans (GC.below (c := b) gA w.heap.size (by omega) hb2.size)
  have HA := Lib.hid hA
  have HF := Lib.hid hfin
  clear hA hfin gA hb
  go_wp2
  refine bodyPost_ret (results_cell_tmp2 rfl _ _ ⟨b, 0, none⟩ _ rfl (run_loadVar_row _ b 38 38 _ (0, 0) _ HA.out Tryz.underlying38 rfl (by kernel_rfl))) rfl ?_
  exact ⟨rfl, HF.out⟩
end Go.Proofs.YtijgmloodkbljaaGreatDoor
