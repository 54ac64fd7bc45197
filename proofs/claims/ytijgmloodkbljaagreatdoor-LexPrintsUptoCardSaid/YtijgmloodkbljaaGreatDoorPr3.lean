import Derived.Test.YtijgmloodkbljaaGreatDoorPrs
import Derived.Test.YtijgmloodkbljaaGreatDoorTxt
namespace Go.Proofs.YtijgmloodkbljaaGreatDoor
open Go Go.RowKit

abbrev vOne : Value := .agg #[.int .i64 1, .int .i64 1, .string ⟨#[]⟩, .slice none 0 0]
abbrev v38 : Value := .agg #[.int .i64 0, .int .i64 0, .string ⟨#[]⟩, .slice none 0 0]
set_option maxHeartbeats 4000000 in
set_option maxRecDepth 100000 in
theorem f236_one (r : Nat) (w : World) (h : RdAt r one1 0 w) : Calls Tryz.prog 236 #[.pointer (some ⟨r, 0, none⟩), .int .i64 1] w (RetR vOne r one1 1 w) := by
  have hrl : r < w.heap.size := (Array.getElem?_eq_some_iff.1 h).1
  have hd49 : digB 49 = true := by decide
  go_enter Tryz.func236, Tryz.ntmps236
  go_wp2_with fail
  have hr0 : RdAt r one1 0 (w.alloc (.cells #[.int .i64 0, .int .i64 0, .string ⟨#[]⟩, .slice none 0 0] 38)) := (heap_alloc_old' w _ _ hrl).trans h
  refine (f309_one r _ hr0).mono ?_
  rintro e w1 ⟨rfl, h1⟩
  have hr1 := hr0.below h1
  have hz1 := alloc_kept h1
  go_wp2_with fail
  refine (f310_digit 49 _).mono ?_
  rintro e w2 ⟨rfl, rfl⟩
  rw [hd49]
  go_wp2_with fail
  refine (f311_one r _ hr1).mono ?_
  rintro e w3 ⟨rfl, hr3, hg3⟩
  go_wp2_with fail
  refine (f75_Int 1 w3).mono ?_
  rintro e w4 ⟨rfl, h4⟩
  have hbr : Hid (w.heap.size ≠ r) := by unfold Hid; omega
  have hz3 : w3.heap[w.heap.size]? = _ := (hg3.block _ (Array.getElem?_eq_some_iff.1 hz1).1 (by simp; omega)).trans hz1
  have hz4 := (h4.block _ (Array.getElem?_eq_some_iff.1 hz3).1).trans hz3
  have hr4 := hr3.below h4
  have hold : ∀ k, k < w.heap.size → k ≠ r → w4.heap[k]? = w.heap[k]? := fun k hk hkr => by
    have e1 : w1.heap[k]? = w.heap[k]? := (h1.block k (by simp; omega)).trans (heap_alloc_old' w _ k hk)
    have s1 : k < w1.heap.size := by have := h1.size; simp at this; omega
    have e2 := (hg3.block k s1 (by simp; omega)).trans e1
    have s2 : k < w3.heap.size := Nat.lt_of_lt_of_le s1 hg3.size
    exact (h4.block k s2).trans e2
  have hos : w4.os = w.os ∧ w4.tape = w.tape ∧ w4.output = w.output ∧ w.heap.size ≤ w4.heap.size := ⟨h4.os.trans (hg3.os.trans h1.os), h4.tape.trans (hg3.tape.trans h1.tape), h4.output.trans (hg3.output.trans h1.output), by have a1 := h1.size; have a2 := hg3.size; have a3 := h4.size; simp at a1; omega⟩
  obtain ⟨⟨z0, z1, z2, z3⟩, y0, y1, y2, y3⟩ := four_of hz4
  obtain ⟨h8, g8⟩ := set4 (v0 := .int .i64 1) (v1 := .int .i64 1) (v2 := .string ⟨#[]⟩) (v3 := .slice none 0 0) hz4
  have hr8 := (g8.block r (Array.getElem?_eq_some_iff.1 hr4).1 (by simp; omega)).trans hr4
  have hfin : GC r w ((((w4.setCell ⟨w.heap.size, 0, none⟩ (.int .i64 1)).setCell ⟨w.heap.size, 1, none⟩ (.int .i64 1)).setCell ⟨w.heap.size, 2, none⟩ (.string ⟨#[]⟩)).setCell ⟨w.heap.size, 3, none⟩ (.slice none 0 0)) :=
    ⟨g8.os.trans hos.1, g8.tape.trans hos.2.1, g8.output.trans hos.2.2.1, Nat.le_trans hos.2.2.2 g8.size, fun k hk hkr => (g8.block k (by omega) (by simp; omega)).trans (hold k hk (fun e => hkr (by rw [e])))⟩
  have H8 := Lib.hid h8
  have HF := Lib.hid hfin
  have HR := Lib.hid hr8
  clear h8 hfin hr8 g8 hold hos
  go_wp2
  refine bodyPost_ret (results_cell_row rfl _ _ w.heap.size 38 #[.int .i64 1, .int .i64 1, .string ⟨#[]⟩, .slice none 0 0] (0, 0) _ rfl H8.out Tryz.underlying38 rfl (by kernel_rfl)) rfl ?_
  exact ⟨rfl, HR.out, HF.out⟩

theorem results_cell3 {P : Program} {fn : Func} {p0 p1 p2 : Tmp} {t0 t1 t2 : TypeId} (h : fn.results = #[.cell p0 t0, .cell p1 t1, .cell p2 t2]) (tmps : Array Value) (w : World) (a0 a1 a2 : Addr) (v0 v1 v2 : Value)
    (hp0 : tmps.getD p0 undef = .pointer (some a0)) (hp1 : tmps.getD p1 undef = .pointer (some a1)) (hp2 : tmps.getD p2 undef = .pointer (some a2))
    (hl0 : (loadVar t0 a0).run P w = .ok v0 w) (hl1 : (loadVar t1 a1).run P w = .ok v1 w) (hl2 : (loadVar t2 a2).run P w = .ok v2 w) : (results fn tmps).run P w = .ok (.tuple #[v0, v1, v2]) w := by
  have q0 : tmps[p0]?.getD undef = .pointer (some a0) := by simpa using hp0
  have q1 : tmps[p1]?.getD undef = .pointer (some a1) := by simpa using hp1
  have q2 : tmps[p2]?.getD undef = .pointer (some a2) := by simpa using hp2
  simp only [results, h]
  simp [Sem.run_bind, Result.andThen, asAddr, q0, q1, q2, hl0, hl1, hl2]
def rdW (s : ByteArray) (w : World) : World := (((w.alloc (.cells #[.int .i64 0, .int .i64 0, .string ⟨#[]⟩, .slice none 0 0] 38)).alloc (.cells #[.int .i64 0] 3)).alloc (.cells #[.bool false] 4)).alloc (.cells #[.string s, .int .i64 0] 265)
def rdR (s : ByteArray) : Array Obj := #[.cells #[.int .i64 0, .int .i64 0, .string ⟨#[]⟩, .slice none 0 0] 38, .cells #[.int .i64 0] 3, .cells #[.bool false] 4, .cells #[.string s, .int .i64 0] 265]
theorem rdW_heap (s : ByteArray) (w : World) : (rdW s w).heap = w.heap ++ rdR s := by
  unfold rdW rdR
  show (((w.heap.push _).push _).push _).push _ = _
  apply Array.ext'
  simp
theorem rdW_row (s : ByteArray) (w : World) (i : Nat) (h : i < 4) : (rdW s w).heap[w.heap.size + i]? = (rdR s)[i]? := by
  rw [rdW_heap, Array.getElem?_append_right (by omega)]
  congr 1
  omega
set_option maxHeartbeats 4000000 in
set_option maxRecDepth 100000 in
theorem f175_one (w : World) : Calls Tryz.prog 175 #[.string one1] w (Ret (.tuple #[vOne, .int .i64 0, .bool true]) w) := by
  have hmf : ∀ (fn : Fn) (first cap : Array Value) (w : World), (Instr.makeFunc fn first cap).run Tryz.prog w = .ok (.func fn first cap) w := fun _ _ _ _ => rfl
  go_enter_defers Tryz.func175, Tryz.ntmps175
  go_wp2_with fail
  simp only [Nat.add_assoc, Nat.reduceAdd]
  have hW : rdW one1 w = rdW one1 w := rfl
  conv at hW => lhs; unfold rdW
  rw [hW]
  obtain ⟨W0, hW0⟩ : ∃ W0, rdW one1 w = W0 := ⟨_, rfl⟩
  rw [hW0]
  have q0 : W0.heap[w.heap.size]? = some (.cells #[.int .i64 0, .int .i64 0, .string ⟨#[]⟩, .slice none 0 0] 38) := by rw [← hW0]; exact rdW_row _ _ 0 (by decide)
  have q1 : W0.heap[w.heap.size + 1]? = some (.cells #[.int .i64 0] 3) := by rw [← hW0]; exact rdW_row _ _ 1 (by decide)
  have q2 : W0.heap[w.heap.size + 2]? = some (.cells #[.bool false] 4) := by rw [← hW0]; exact rdW_row _ _ 2 (by decide)
  have q3 : RdAt (w.heap.size + 3) one1 0 W0 := by rw [← hW0]; exact rdW_row _ _ 3 (by decide)
  have hsz : W0.heap.size = w.heap.size + 4 := by rw [← hW0, rdW_heap]; simp [rdR]
  have hbw : Below w.heap.size w W0 := by
    rw [← hW0]
    exact ((((Below.refl _ w).alloc (Nat.le_refl _) _).alloc (by simp) _).alloc (by simp; omega) _).alloc (by simp; omega) _
  clear hW hW0
  refine (f236_one (w.heap.size + 3) W0 q3).mono ?_
  rintro e w1 ⟨rfl, hr1, hg1⟩
  generalize hb : w.heap.size = b at *
  have HB := Lib.hid hb
  clear hb
  have p0 := (hg1.block b (by omega) (by simp)).trans q0
  have p1 := (hg1.block (b + 1) (by omega) (by simp)).trans q1
  have p2 := (hg1.block (b + 2) (by omega) (by simp)).trans q2
  obtain ⟨⟨z0, z1, z2, z3⟩, y0, y1, y2, y3⟩ := four_of p0
  have k1 : w1.cell? ⟨b + 3, 1, none⟩ = some (.int .i64 1) := Lib.cell_of_heap hr1 1
  have e1 : w1.cell? ⟨b + 1, 0, none⟩ = some (.int .i64 0) := Lib.cell_of_heap p1 0
  have f1 : w1.frozen? ⟨b + 1, 0, none⟩ = false := Lib.frozen_of_heap p1 0
  have e2 : w1.cell? ⟨b + 2, 0, none⟩ = some (.bool false) := Lib.cell_of_heap p2 0
  have f2 : w1.frozen? ⟨b + 2, 0, none⟩ = false := Lib.frozen_of_heap p2 0
  obtain ⟨hA, gA⟩ := set4 (v0 := .int .i64 1) (v1 := .int .i64 1) (v2 := .string ⟨#[]⟩) (v3 := .slice none 0 0) p0
  obtain ⟨hB, gB⟩ := set4 (v0 := .int .i64 1) (v1 := .int .i64 1) (v2 := .string ⟨#[]⟩) (v3 := .slice none 0 0) hA
  have gAB := GC.trans (c := b) gA gB
  have s1 : w1.heap.size = w1.heap.size := rfl
  have l1 : b + 1 < w1.heap.size := (Array.getElem?_eq_some_iff.1 p1).1
  have l2 : b + 2 < w1.heap.size := (Array.getElem?_eq_some_iff.1 p2).1
  have m1 := (gAB.block (b + 1) l1 (by simp)).trans p1
  have m2 := (gAB.block (b + 2) l2 (by simp)).trans p2
  have hos : w1.os = w.os ∧ w1.tape = w.tape ∧ w1.output = w.output := ⟨hg1.os.trans hbw.os, hg1.tape.trans hbw.tape, hg1.output.trans hbw.output⟩
  have hold : ∀ k, k < b → w1.heap[k]? = w.heap[k]? := fun k hk => (hg1.block k (by omega) (by simp; omega)).trans (hbw.block k hk)
  generalize hX : ((((((((w1.setCell ⟨b, 0, none⟩ (.int .i64 1)).setCell ⟨b, 1, none⟩ (.int .i64 1)).setCell ⟨b, 2, none⟩ (.string ⟨#[]⟩)).setCell ⟨b, 3, none⟩ (.slice none 0 0)).setCell ⟨b, 0, none⟩ (.int .i64 1)).setCell ⟨b, 1, none⟩ (.int .i64 1)).setCell ⟨b, 2, none⟩ (.string ⟨#[]⟩)).setCell ⟨b, 3, none⟩ (.slice none 0 0)) = X at *
  obtain ⟨n1, g1⟩ := setCell_block X (b + 1) 0 (.int .i64 0) _ _ m1
  have n2 := (g1.block (b + 2) (Array.getElem?_eq_some_iff.1 m2).1 (by simp)).trans m2
  have n0 := (g1.block b (Array.getElem?_eq_some_iff.1 hB).1 (by simp)).trans hB
  obtain ⟨o2, g2⟩ := setCell_block _ (b + 2) 0 (.bool true) _ _ n2
  have o0 := (g2.block b (Array.getElem?_eq_some_iff.1 n0).1 (by simp)).trans n0
  have o1 := (g2.block (b + 1) (Array.getElem?_eq_some_iff.1 n1).1 (by simp)).trans n1
  have hfin : Below b w ((X.setCell ⟨b + 1, 0, none⟩ (.int .i64 0)).setCell ⟨b + 2, 0, none⟩ (.bool true)) := by
    have a1 := gAB.size
    have a2 := g1.size
    have a3 := g2.size
    exact ⟨g2.os.trans (g1.os.trans (gAB.os.trans hos.1)), g2.tape.trans (g1.tape.trans (gAB.tape.trans hos.2.1)), g2.output.trans (g1.output.trans (gAB.output.trans hos.2.2)), by have := HB.out; omega,
      fun k hk => (g2.block k (by omega) (by simp; omega)).trans ((g1.block k (by omega) (by simp; omega)).trans ((gAB.block k (by omega) (by simp; omega)).trans (hold k hk)))⟩
  have O0 := Lib.hid o0
  have O1 := Lib.hid o1
  have O2 := Lib.hid o2
  have HF := Lib.hid hfin
  have HX := Lib.hid hX
  clear hX hfin o0 o1 o2 g1 g2 n1 n2 n0 m1 m2 gAB gA gB hA hB
  go_wp2
  refine leaves_cons (f := 235) (args := #[.pointer (some ⟨b, 0, none⟩), .pointer (some ⟨b + 1, 0, none⟩), .pointer (some ⟨b + 2, 0, none⟩)]) (by simp) (by simp [go_sem]) ?_
  refine (f235_idle ⟨b, 0, none⟩ ⟨b + 1, 0, none⟩ ⟨b + 2, 0, none⟩ _).mono ?_
  rintro e u' w'' ⟨rfl, rfl, rfl⟩
  rw [HX.out]
  refine ⟨.tuple #[vOne, .int .i64 0, .bool true], ?_, ⟨rfl, by rw [HB.out]; exact HF.out⟩⟩
  refine results_cell3 rfl _ _ ⟨b, 0, none⟩ ⟨b + 1, 0, none⟩ ⟨b + 2, 0, none⟩ _ _ _ rfl rfl rfl (run_loadVar_row _ b 38 38 _ (0, 0) _ O0.out Tryz.underlying38 rfl (by kernel_rfl)) ?_ ?_
  · have c := Lib.cell_of_heap O1.out 0
    generalize (X.setCell ⟨b + 1, 0, none⟩ (.int .i64 0)).setCell ⟨b + 2, 0, none⟩ (.bool true) = W9 at *
    go_simp
  · have c := Lib.cell_of_heap O2.out 0
    generalize (X.setCell ⟨b + 1, 0, none⟩ (.int .i64 0)).setCell ⟨b + 2, 0, none⟩ (.bool true) = W9 at *
    go_simp
end Go.Proofs.YtijgmloodkbljaaGreatDoor
