import Derived.Test.YtijgmloodkbljaaGreatDoorScn
import Derived.Deep.RegionWith
import Derived.Deep.CutRange
namespace Go.Proofs.YtijgmloodkbljaaGreatDoor
open Go Go.RowKit

abbrev zeroV : Value := .agg #[.int .i64 0, .string ⟨#[]⟩, .int .i64 0, .int .i64 0]
/-- What 'one' is known to hand back at the place K: a token (its place 0), and how many bytes it has. -/
def OneAt (t : Tok) (n : Int) (w : World) (e : Ending) (w' : World) : Prop := e = .returned (.tuple #[.agg #[.int .i64 t.kind, .string t.text, .int .i64 t.n, .int .i64 0], .int .i64 n]) ∧ Below w.heap.size w w'

theorem heap_alloc_old' (w : World) (o : Obj) (i : Nat) (h : i < w.heap.size) : (w.alloc o).heap[i]? = w.heap[i]? := by
  show (w.heap.push o)[i]? = w.heap[i]?
  rw [Array.getElem?_push, if_neg (Nat.ne_of_lt h)]
theorem alloc_kept {w w2 : World} {o : Obj} (h : Below (w.alloc o).heap.size (w.alloc o) w2) : w2.heap[w.heap.size]? = some o :=
  (h.block w.heap.size (by simp)).trans (heap_alloc_new w o)
theorem alloc_kept' {w w2 : World} {o : Obj} (h : Below (w.alloc o).drew.heap.size (w.alloc o).drew w2) : w2.heap[w.heap.size]? = some o :=
  (h.block w.heap.size (by show _ < (w.alloc o).heap.size; simp)).trans (heap_alloc_new w o)
theorem four_of {w : World} {b : Nat} {v0 v1 v2 v3 : Value} {t : TypeId} (h : w.heap[b]? = some (.cells #[v0, v1, v2, v3] t)) :
    (w.cell? ⟨b, 0, none⟩ = some v0 ∧ w.cell? ⟨b, 1, none⟩ = some v1 ∧ w.cell? ⟨b, 2, none⟩ = some v2 ∧ w.cell? ⟨b, 3, none⟩ = some v3) ∧
    (w.frozen? ⟨b, 0, none⟩ = false ∧ w.frozen? ⟨b, 1, none⟩ = false ∧ w.frozen? ⟨b, 2, none⟩ = false ∧ w.frozen? ⟨b, 3, none⟩ = false) :=
  ⟨⟨Lib.cell_of_heap h 0, Lib.cell_of_heap h 1, Lib.cell_of_heap h 2, Lib.cell_of_heap h 3⟩, ⟨Lib.frozen_of_heap h 0, Lib.frozen_of_heap h 1, Lib.frozen_of_heap h 2, Lib.frozen_of_heap h 3⟩⟩

theorem results_cell_tmp_row {P : Program} {fn : Func} {p u : Tmp} {ty : TypeId} (h : fn.results = #[.cell p ty, .tmp u]) (tmps : Array Value) (w : World) (g : Nat) (t : TypeId) (cs : Array Value) (fr : Nat × Nat) (d : TypeDesc)
    (hp : tmps.getD p undef = .pointer (some ⟨g, 0, none⟩)) (hg : w.heap[g]? = some (.cells cs t fr))
    (hu : P.underlying ty = some d) (hd : (match d with | .struct _ | .array _ _ => true | _ => false) = true) (hi : (P.info? ty).map (·.size) = some cs.size) :
    (results fn tmps).run P w = .ok (.tuple #[.agg cs, tmps.getD u undef]) w := by
  rw [results_cell_tmp h, hp]
  simp [asAddr, run_loadVar_row w g t ty cs fr d hg hu hd hi, Result.andThen]

/-- Behind the region: the token lies in block b4, the scanner stands as it stood. -/
def R3 (c : Nat) (s : ByteArray) (K : Nat) (cs : Array Value) (W : World) (b4 : Nat) (wc : World) : Prop := wc.heap[b4]? = some (.cells cs 24) ∧ ScAt c s K wc ∧ GC c W wc ∧ W.heap.size ≤ b4
theorem set4 {w : World} {b : Nat} {a0 a1 a2 a3 v0 v1 v2 v3 : Value} {t : TypeId} (h : w.heap[b]? = some (.cells #[a0, a1, a2, a3] t)) :
    ((((w.setCell ⟨b, 0, none⟩ v0).setCell ⟨b, 1, none⟩ v1).setCell ⟨b, 2, none⟩ v2).setCell ⟨b, 3, none⟩ v3).heap[b]? = some (.cells #[v0, v1, v2, v3] t) ∧
    w.grownBy ((((w.setCell ⟨b, 0, none⟩ v0).setCell ⟨b, 1, none⟩ v1).setCell ⟨b, 2, none⟩ v2).setCell ⟨b, 3, none⟩ v3) (some b) := by
  obtain ⟨h1, g1⟩ := setCell_block w b 0 v0 _ _ h
  obtain ⟨h2, g2⟩ := setCell_block _ b 1 v1 _ _ h1
  obtain ⟨h3, g3⟩ := setCell_block _ b 2 v2 _ _ h2
  obtain ⟨h4, g4⟩ := setCell_block _ b 3 v3 _ _ h3
  exact ⟨h4, GC.trans (c := b) (GC.trans (c := b) (GC.trans (c := b) g1 g2) g3) g4⟩
theorem r3_new {c : Nat} {s : ByteArray} {K : Nat} {cs : Array Value} {W w1 w2 : World} (h : ScAt c s K w1) (hg : GC c W w1) (hb : Below w1.drew.heap.size w1.drew w2) : R3 c s K cs W w2.heap.size (w2.alloc (.cells cs 24)) := by
  have hcl : c < w1.heap.size := (Array.getElem?_eq_some_iff.1 h).1
  have hs : w1.heap.size ≤ w2.heap.size := hb.size
  refine ⟨heap_alloc_new _ _, (heap_alloc_old' w2 _ _ (by omega)).trans ((hb.block c hcl).trans h), ?_, Nat.le_trans hg.size hs⟩
  refine ⟨hb.os.trans hg.os, hb.tape.trans hg.tape, hb.output.trans hg.output, ?_, fun k hk hr => ?_⟩
  · have := hg.size
    show _ ≤ (w2.alloc _).heap.size
    simp
    omega
  · have := hg.size
    exact (heap_alloc_old' w2 _ _ (by omega)).trans ((hb.block k (by show k < w1.heap.size; omega)).trans (hg.block k hk hr))
theorem r3_old {c : Nat} {s : ByteArray} {K : Nat} {a0 a1 a2 a3 v0 v1 v2 v3 : Value} {W w1 w2 : World} (h : ScAt c s K w1) (hg : GC c W w1) (hb : Below (w1.alloc (.cells #[a0, a1, a2, a3] 24)).drew.heap.size (w1.alloc (.cells #[a0, a1, a2, a3] 24)).drew w2) :
    R3 c s K #[v0, v1, v2, v3] W w1.heap.size ((((w2.setCell ⟨w1.heap.size, 0, none⟩ v0).setCell ⟨w1.heap.size, 1, none⟩ v1).setCell ⟨w1.heap.size, 2, none⟩ v2).setCell ⟨w1.heap.size, 3, none⟩ v3) := by
  have hcl : c < w1.heap.size := (Array.getElem?_eq_some_iff.1 h).1
  have hx := alloc_kept' hb
  obtain ⟨h4, g4⟩ := set4 (v0 := v0) (v1 := v1) (v2 := v2) (v3 := v3) hx
  have hsz : (w1.alloc (.cells #[a0, a1, a2, a3] 24)).heap.size ≤ w2.heap.size := hb.size
  simp only [World.size_alloc] at hsz
  have hk2 : ∀ k, k < w1.heap.size → w2.heap[k]? = w1.heap[k]? := fun k hk => (hb.block k (by show k < (w1.alloc _).heap.size; simp; omega)).trans (heap_alloc_old' w1 _ _ hk)
  have hk4 : ∀ k, k < w1.heap.size → ((((w2.setCell ⟨w1.heap.size, 0, none⟩ v0).setCell ⟨w1.heap.size, 1, none⟩ v1).setCell ⟨w1.heap.size, 2, none⟩ v2).setCell ⟨w1.heap.size, 3, none⟩ v3).heap[k]? = w1.heap[k]? :=
    fun k hk => (g4.block k (by omega) (by simp; omega)).trans (hk2 k hk)
  refine ⟨h4, (hk4 c hcl).trans h, ?_, hg.size⟩
  refine ⟨g4.os.trans (hb.os.trans hg.os), g4.tape.trans (hb.tape.trans hg.tape), g4.output.trans (hb.output.trans hg.output), ?_, fun k hk hr => ?_⟩
  · have := hg.size
    have := g4.size
    omega
  · have := hg.size
    exact (hk4 k (by omega)).trans (hg.block k hk hr)

set_option maxHeartbeats 4000000 in
set_option maxRecDepth 100000 in
theorem f161_some (c : Nat) (s : ByteArray) (k K n : Nat) (t : Tok) (w : World) (h : ScAt c s k w) (hk : k ≤ s.size) (hs : s.size ≤ 1048576) (hL : Laid w) (hc : 8 ≤ c)
    (hK : skip s k = K) (hlt : K < s.size) (h228 : ∀ W, Laid W → Calls Tryz.prog 228 #[.string (s.extract K s.size)] W (OneAt t n W))
    (ht : t.text.size ≤ 1048576) (hpos : t.pos = K) (hok : t.ok = true) (hn : 0 < n) (hn2 : n ≤ 1048576) :
    Calls Tryz.prog 161 #[.pointer (some ⟨c, 0, none⟩)] w (RetC (.tuple #[t.val, .bool true]) c s (K + n) w) := by
  obtain ⟨tk, tt, tn, tp⟩ := t
  dsimp only at hpos
  subst hpos
  have h83 := f83_blanks c s k (w.alloc (.cells #[.int .i64 0, .string ⟨#[]⟩, .int .i64 0, .int .i64 0] 24)) (by
    have hcl : c < w.heap.size := (Array.getElem?_eq_some_iff.1 h).1
    exact (heap_alloc_old' w _ _ hcl).trans h) hk hs
  rw [hK, decide_eq_true hlt] at h83
  have hlt' : (K : Int) < s.size := by omega
  go_enter Tryz.func161, Tryz.ntmps161
  go_wp2_with (go_at_call 83; refine h83.mono ?_; clear h83)
  rintro e w1 ⟨rfl, hsc1, hg1⟩
  have c0 : w1.cell? ⟨c, 0, none⟩ = some (.string s) := Lib.cell_of_heap hsc1 0
  have c1 : w1.cell? ⟨c, 1, none⟩ = some (.int .i64 K) := Lib.cell_of_heap hsc1 1
  have hcl1 : c < w1.heap.size := (Array.getElem?_eq_some_iff.1 hsc1).1
  have hL1 : Laid w1 := (hL.alloc _).below (hg1.below 8 hc (by have := hL.size; simp; omega)) (Nat.le_refl _)
  have hL1d : Laid w1.drew := hL1.below ((Below.refl 8 w1).drew) (Nat.le_refl _)
  have hb2c : w.heap.size ≠ c := by
    have hcl : c < w.heap.size := (Array.getElem?_eq_some_iff.1 h).1
    omega
  go_upto_region 3 with fail
  go_cut [4, 5] from 6 (fun s4 s5 wc => ∃ b4 : Nat, s4 = .pointer (some ⟨b4, 0, none⟩) ∧ s5 = .int .i64 n ∧ R3 c s K #[.int .i64 tk, .string tt, .int .i64 tn, .int .i64 0] (w.alloc (.cells #[.int .i64 0, .string ⟨#[]⟩, .int .i64 0, .int .i64 0] 24)) b4 wc)
  case first =>
    go_region_with (go_at_call 228; refine (h228 _ (by first | exact hL1d | exact hL1d.alloc _)).mono ?_; rintro e w2 ⟨rfl, hb2⟩; (first | (have hx := alloc_kept' hb2; obtain ⟨⟨z0, z1, z2, z3⟩, y0, y1, y2, y3⟩ := four_of hx) | skip))
    all_goals (go_wp2_with fail; go_meet)
    all_goals first | with_reducible exact ⟨_, rfl, rfl, r3_new hsc1 hg1 hb2⟩ | with_reducible exact ⟨_, rfl, rfl, r3_old hsc1 hg1 hb2⟩
  case rest =>
    obtain ⟨b4, rfl, rfl, h4, hsc3, hg3, hlt4⟩ := hcut
    have hb4c : b4 ≠ c := by
      have hcl : c < w.heap.size := (Array.getElem?_eq_some_iff.1 h).1
      have : w.heap.size + 1 ≤ b4 := by simpa using hlt4
      omega
    obtain ⟨⟨z0, z1, z2, z3⟩, y0, y1, y2, y3⟩ := four_of h4
    have c0 : wc.cell? ⟨c, 0, none⟩ = some (.string s) := Lib.cell_of_heap hsc3 0
    have c1 : wc.cell? ⟨c, 1, none⟩ = some (.int .i64 K) := Lib.cell_of_heap hsc3 1
    have hz2 : wc.heap[w.heap.size]? = some (.cells #[.int .i64 0, .string ⟨#[]⟩, .int .i64 0, .int .i64 0] 24) := (hg3.block w.heap.size (by simp) (by simp; omega)).trans (heap_alloc_new w _)
    have hb42 : b4 ≠ w.heap.size := by
      have : w.heap.size + 1 ≤ b4 := by simpa using hlt4
      omega
    have hlt5 : w.heap.size + 1 ≤ b4 := by simpa using hlt4
    obtain ⟨h5, g5⟩ := setCell_block wc b4 3 (.int .i64 (K : Int)) _ _ h4
    have hcl3 : c < wc.heap.size := (Array.getElem?_eq_some_iff.1 hsc3).1
    have hsc5 : ScAt c s K (wc.setCell ⟨b4, 3, none⟩ (.int .i64 (K : Int))) := (g5.block c hcl3 (by simp; omega)).trans hsc3
    have hz5 : (wc.setCell ⟨b4, 3, none⟩ (.int .i64 (K : Int))).heap[w.heap.size]? = _ := (g5.block w.heap.size (Array.getElem?_eq_some_iff.1 hz2).1 (by simp; omega)).trans hz2
    have hzl : w.heap.size < (wc.setCell ⟨b4, 3, none⟩ (.int .i64 (K : Int))).heap.size := (Array.getElem?_eq_some_iff.1 hz5).1
    go_wp2_with (go_at_call 15; refine (f15_Check _ _ _ _ _ ht).mono ?_; rw [hok, show checkE true = 0 from rfl])
    rintro e w4 ⟨rfl, hb4⟩
    have hsc6 : ScAt c s K w4 := (hb4.block c (Array.getElem?_eq_some_iff.1 hsc5).1).trans hsc5
    have hz6 := (hb4.block w.heap.size hzl).trans hz5
    have h6 := (hb4.block b4 (Array.getElem?_eq_some_iff.1 h5).1).trans h5
    have hg6 : ∀ k, k < w.heap.size → k ≠ c → w4.heap[k]? = w.heap[k]? := fun k hk hkc => by
      have h1 := hg3.block k (by simp; omega) (by simp; omega)
      have h2 := g5.block k (by have := hg3.size; simp at this; omega) (by simp; omega)
      exact (hb4.block k (by omega)).trans (h2.trans (h1.trans (heap_alloc_old' w _ k hk)))
    clear c0 c1 z0 z1 z2 z3 y0 y1 y2 y3
    obtain ⟨⟨z0, z1, z2, z3⟩, y0, y1, y2, y3⟩ := four_of h6
    obtain ⟨⟨x0, x1, x2, x3⟩, v0, v1, v2, v3⟩ := four_of hz6
    have c0 : w4.cell? ⟨c, 0, none⟩ = some (.string s) := Lib.cell_of_heap hsc6 0
    have c1 : w4.cell? ⟨c, 1, none⟩ = some (.int .i64 K) := Lib.cell_of_heap hsc6 1
    have cf : w4.frozen? ⟨c, 1, none⟩ = false := Lib.frozen_of_heap hsc6 1
    have hos : w4.os = w.os ∧ w4.tape = w.tape ∧ w4.output = w.output ∧ w.heap.size ≤ w4.heap.size := ⟨hb4.os.trans (g5.os.trans hg3.os), hb4.tape.trans (g5.tape.trans hg3.tape), hb4.output.trans (g5.output.trans hg3.output), by have := hb4.size; omega⟩
    have HH := Lib.hid hg6
    have HO := Lib.hid hos
    clear hg6 hos
    have hne : Hid (w.heap.size ≠ c) := hb2c
    generalize hbb : w.heap.size = b2 at *
    have HBB := Lib.hid hbb
    clear hbb
    have hn0 : ((n : Int) == 0) = false := by simp; omega
    obtain ⟨hs7, g7⟩ := hsc6.set (K + n)
    have hz7 := (g7.block b2 (Array.getElem?_eq_some_iff.1 hz6).1 (by simp; exact hne.out)).trans hz6
    have ekn : ((K + n : Nat) : Int) = (K : Int) + n := by omega
    rw [ekn] at hs7 g7 hz7
    obtain ⟨h8, g8⟩ := set4 (v0 := .int .i64 tk) (v1 := .string tt) (v2 := .int .i64 tn) (v3 := .int .i64 (K : Int)) hz7
    have hs8 := (g8.block c (Array.getElem?_eq_some_iff.1 hs7).1 (by simp; exact fun e => hne.out e.symm)).trans hs7
    have H8 := Lib.hid h8
    have HS8 := Lib.hid hs8
    have G8 := Lib.hid g8
    have G7 := Lib.hid g7
    clear h8 hs8 g8 g7 hs7 hz7
    go_wp2
    refine bodyPost_ret (results_cell_tmp_row rfl _ _ b2 24 #[.int .i64 tk, .string tt, .int .i64 tn, .int .i64 K] (0, 0) _ rfl H8.out Tryz.underlying24 rfl (by kernel_rfl)) rfl ?_
    refine ⟨rfl, ?_, ?_⟩
    · have h := HS8.out
      unfold ScAt
      rw [ekn]
      exact h
    · refine ⟨G8.out.os.trans (G7.out.os.trans HO.out.1), G8.out.tape.trans (G7.out.tape.trans HO.out.2.1), G8.out.output.trans (G7.out.output.trans HO.out.2.2.1), ?_, fun k hk hr => ?_⟩
      · have h1 := G8.out.size
        have h2 := G7.out.size
        have h3 := HO.out.2.2.2
        have h4 := HBB.out
        omega
      · have hk2 : k < b2 := by rw [← HBB.out]; exact hk
        have hkc : k ≠ c := fun e => hr (by rw [e])
        have h2 := G7.out.size
        have h3 := HO.out.2.2.2
        exact (G8.out.block k (by omega) (by simp; omega)).trans ((G7.out.block k (by omega) hr).trans (HH.out k hk2 hkc))

set_option maxHeartbeats 4000000 in
set_option maxRecDepth 100000 in
theorem f161_end (c : Nat) (s : ByteArray) (k K : Nat) (w : World) (h : ScAt c s k w) (hk : k ≤ s.size) (hs : s.size ≤ 1048576)
    (hK : skip s k = K) (hlt : ¬ K < s.size) : Calls Tryz.prog 161 #[.pointer (some ⟨c, 0, none⟩)] w (RetC (.tuple #[zeroV, .bool false]) c s K w) := by
  have hcl : c < w.heap.size := (Array.getElem?_eq_some_iff.1 h).1
  have h83 := f83_blanks c s k (w.alloc (.cells #[.int .i64 0, .string ⟨#[]⟩, .int .i64 0, .int .i64 0] 24)) ((heap_alloc_old' w _ _ hcl).trans h) hk hs
  rw [hK, decide_eq_false hlt] at h83
  go_enter Tryz.func161, Tryz.ntmps161
  go_wp2_with (go_at_call 83; refine h83.mono ?_; clear h83)
  rintro e w1 ⟨rfl, hsc1, hg1⟩
  have hz1 : w1.heap[w.heap.size]? = some (.cells #[.int .i64 0, .string ⟨#[]⟩, .int .i64 0, .int .i64 0] 24) := (hg1.block w.heap.size (by simp) (by simp; omega)).trans (heap_alloc_new w _)
  have hne : Hid (w.heap.size ≠ c) := by unfold Hid; omega
  generalize hbb : w.heap.size = b2 at hz1 hne
  have HBB := Lib.hid hbb
  obtain ⟨⟨z0, z1, z2, z3⟩, y0, y1, y2, y3⟩ := four_of hz1
  obtain ⟨h8, g8⟩ := set4 (v0 := .int .i64 0) (v1 := .string ⟨#[]⟩) (v2 := .int .i64 0) (v3 := .int .i64 0) hz1
  have hs8 := (g8.block c (Array.getElem?_eq_some_iff.1 hsc1).1 (by simp; exact fun e => hne.out e.symm)).trans hsc1
  have H8 := Lib.hid h8
  have HS8 := Lib.hid hs8
  have G8 := Lib.hid g8
  have G1 := Lib.hid hg1
  clear h8 hs8 g8 hg1
  go_wp2
  refine bodyPost_ret (results_cell_tmp_row rfl _ _ b2 24 #[.int .i64 0, .string ⟨#[]⟩, .int .i64 0, .int .i64 0] (0, 0) _ rfl H8.out Tryz.underlying24 rfl (by kernel_rfl)) rfl ?_
  refine ⟨rfl, HS8.out, G8.out.os.trans G1.out.os, G8.out.tape.trans G1.out.tape, G8.out.output.trans G1.out.output, ?_, fun k hk hr => ?_⟩
  · have h1 := G8.out.size
    have h2 := G1.out.size
    simp at h2
    omega
  · have h2 := G1.out.size
    simp at h2
    have h3 := HBB.out
    exact (G8.out.block k (by omega) (by simp; omega)).trans ((G1.out.block k (by simp; omega) hr).trans (heap_alloc_old' w _ k hk))
end Go.Proofs.YtijgmloodkbljaaGreatDoor
