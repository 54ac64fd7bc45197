import Derived.Test.YtijgmloodkbljaaGreatDoorLbE
import Derived.Test.YtijgmloodkbljaaGreatDoorRows
import Derived.Deep.Slices
import Derived.Deep.Fields
import Derived.ChangeSame
import Derived.OpenShut
import Derived.Test.YtijgmloodkbljaaGreatDoorLbD
import Derived.LaidSub
import Derived.MakeChecks
import Derived.Lib.LaidTab
import Derived.Lib.QuietBelow
import Derived.WalkMore
import Derived.Deep.QuietTactic
import Derived.BigQuiet
import Derived.Deep.RegionWith
import Derived.Deep.CutRange
namespace Go.Proofs.YtijgmloodkbljaaGreatDoor
open Go Go.RowKit Go.ChangeShapes Go.WideShapes Go.Deep

section
variable {H : Type} {enc : TypeId × Value → H} {P : Program} {w : World} {base : Nat} {spare : Nat → Bool} {held : Bool}
theorem open_slice_fields {t e : TypeId} {fs : Array Field} {fuel : Nat} {cs : List Value} {x : DataW H × List MemPlace} (ht : P.underlying t = some (.slice e)) (he : P.underlying e = some (.struct fs))
    (hone : oneCellFields P fs = true) (hC : P.cellsOf e = fs.size) (h : DataW.trod enc P w base spare held fuel t cs = some x) :
    (cs = [.slice none 0 0] ∧ x = (.nil, [])) ∨
    ∃ (a : Addr) (len cap m : Nat) (D : Nat → DataW H) (Pl : Nat → List MemPlace), cs = [.slice (some a) len cap] ∧ base ≤ a.block ∧ len ≤ cap ∧ cap ≤ maxLen ∧ m = (if spare a.block then cap else len) ∧
      x = (.slice ((List.range len).map D) ((List.range (m - len)).map fun j => D (len + j)), MemPlace.row a (m * fs.size) ++ (List.range m).flatMap Pl) ∧
      ∀ i, i < m → ∃ (ys : List (DataW H × List MemPlace)) (n : Nat), D i = .agg (ys.map (·.1)) ∧ Pl i = ys.flatMap (·.2) ∧ ys.length = fs.size ∧
        ∀ (j : Nat) (f : Field), fs[j]? = some f → ∃ (v : Value) (y : DataW H × List MemPlace), w.cell? (a.add (i * fs.size + j)) = some v ∧ ys[j]? = some y ∧ DataW.trod enc P w base spare held n f.type [v] = some y := by
  rcases open_slice ht h with h0 | ⟨a, len, cap, m, n, D, Pl, hcs, hb, hl, hm, hmm, hx, hi⟩
  · exact .inl h0
  · refine .inr ⟨a, len, cap, m, D, Pl, hcs, hb, hl, hm, hmm, by rw [hC] at hx; exact hx, fun i him => ?_⟩
    obtain ⟨cs', hc, ht'⟩ := hi i him
    rw [hC] at hc
    obtain ⟨ys, n', hn', hy, hlen, hyl, hf⟩ := DataW.trod_struct he ht'
    obtain ⟨_, hcl, hat⟩ := World.cells?_some hc
    simp only [Prod.mk.injEq] at hy
    refine ⟨ys, n', hy.1, hy.2, hyl, fun j f hj => ?_⟩
    obtain ⟨ho, hk⟩ := hone_of hone j f hj
    have hjl : j < fs.size := (Array.getElem?_eq_some_iff.1 hj).1
    have hcell := hat j hjl
    have hv : cs'[j]? = some (cs'[j]'(by omega)) := List.getElem?_eq_getElem (by omega)
    have h1 := hf j f hj
    rw [ho, hk] at h1
    have hone' : (cs'.drop j).take 1 = [cs'[j]'(by omega)] := by
      rw [List.drop_eq_getElem_cons (by omega)]
      rfl
    rw [hone'] at h1
    have hys : ys[j]? = some (ys[j]'(by omega)) := List.getElem?_eq_getElem (by omega)
    refine ⟨_, _, ?_, hys, h1.trans hys⟩
    rw [← Go.Deep.add_add, hcell, hv]
end

theorem cells24 : Tryz.prog.cellsOf 24 = 4 := by kernel_rfl
def fs24 : Array Field := #[{ name := "Kind", type := 3, offset := 0, embedded := false, tag := "", pkgPath := "", byteOffset := 0 }, { name := "Text", type := 9, offset := 1, embedded := false, tag := "", pkgPath := "", byteOffset := 8 }, { name := "N", type := 2, offset := 2, embedded := false, tag := "", pkgPath := "", byteOffset := 24 }, { name := "At", type := 3, offset := 3, embedded := false, tag := "", pkgPath := "", byteOffset := 32 }]
theorem under24 : Tryz.prog.underlying 24 = some (.struct fs24) := Tryz.underlying24
theorem hone24 : oneCellFields Tryz.prog fs24 = true := by kernel_rfl
theorem hcells24 : Tryz.prog.cellsOf 24 = fs24.size := by rw [cells24]; rfl
theorem part_le {H : Type} {d : DataW H} {l : List (DataW H)} (h : d ∈ l) : Rows.uptoBulk d ≤ Rows.uptoBulkAll l := by
  induction l with
  | nil => cases h
  | cons x r ih =>
    simp only [Rows.uptoBulkAll]
    cases List.mem_cons.1 h with
    | inl e => subst e; omega
    | inr e => have := ih e; omega
theorem bulk_one {H : Type} (d : DataW H) : 1 ≤ Rows.uptoBulk d := by
  cases d with
  | lit l => cases l <;> simp [Rows.uptoBulk]
  | nil => simp [Rows.uptoBulk]
  | ptr d => simp [Rows.uptoBulk]
  | slice elems spare => simp [Rows.uptoBulk]
  | agg parts => simp [Rows.uptoBulk]
  | iface t d => simp [Rows.uptoBulk]
  | map entries => simp [Rows.uptoBulk]
  | held h => simp [Rows.uptoBulk]
theorem bulk_len {H : Type} (l : List (DataW H)) : l.length ≤ Rows.uptoBulkAll l := by
  induction l with
  | nil => simp [Rows.uptoBulkAll]
  | cons x r ih => have := bulk_one x; simp only [Rows.uptoBulkAll, List.length_cons]; omega

/-- What the cells hold, as a token. -/
def rdTok (w : World) (g o : Nat) : Tok :=
  ⟨match w.cell? ⟨g, o, none⟩ with | some (.int _ k) => k | _ => 0, match w.cell? ⟨g, o + 1, none⟩ with | some (.string s) => s | _ => ⟨#[]⟩, match w.cell? ⟨g, o + 2, none⟩ with | some (.int _ k) => k | _ => 0, match w.cell? ⟨g, o + 3, none⟩ with | some (.int _ k) => k | _ => 0⟩

theorem cell_add {W : World} {a : Addr} {n : Nat} {v : Value} (h : W.cell? (a.add n) = some v) : W.cell? ⟨a.block, a.off + n, none⟩ = some v ∧ (n = 0 → a.spot = none) := by
  unfold Addr.add at h
  by_cases hn : n = 0
  · rw [if_pos hn] at h
    obtain ⟨ab, ao, asp⟩ := a
    have hs : asp = none := by
      cases asp with
      | none => rfl
      | some x =>
        unfold World.cell? at h
        simp only [Option.isSome_some, if_true] at h
        split at h <;> cases h
    subst hs hn
    exact ⟨h, fun _ => rfl⟩
  · rw [if_neg hn] at h
    exact ⟨h, fun e => absurd e hn⟩

set_option maxRecDepth 100000 in
theorem open_toks {H : Type} {enc : TypeId × Value → H} {W : World} {b : Nat} {v : Value} {d : DataW H} {p : List MemPlace} (hval : Value.okWide Tryz.prog W .any b 22 v) (h : DataW.Trod enc Tryz.prog W 0 (fun _ => true) true 22 v d p) (hb : Rows.uptoBulk d ≤ 1048576) :
    ∃ ts, Toks W v ts := by
  obtain ⟨a0, len0, cap0, rfl⟩ := okWide_slice Tryz.underlying22 hval
  obtain ⟨fuel, hf⟩ := h
  rcases open_slice_fields Tryz.underlying22 under24 hone24 hcells24 hf with ⟨hcs, hx⟩ | ⟨a, len, cap, m, D, Pl, hcs, _, hl, hm, hmm, hx, hi⟩
  · have e : Value.slice a0 len0 cap0 = .slice none 0 0 := by simpa [Value.cells] using hcs
    rw [e]
    exact ⟨[], ⟨none, 0, rfl, fun i h => by simp at h⟩, fun t ht => by simp at ht, by simp⟩
  · have e : Value.slice a0 len0 cap0 = .slice (some a) len cap := by simpa [Value.cells] using hcs
    rw [e]
    simp only [if_true] at hmm
    have hfour : ∀ i, i < len → ∃ t : Tok, Cell4 W a.block (a.off + i * 4) t ∧ t.fine ∧ a.block < W.heap.size ∧ (i = 0 → a.spot = none) := by
      intro i hilt
      obtain ⟨ys, n, hD, _, hyl, hj⟩ := hi i (by omega)
      obtain ⟨v0, y0, hc0, hy0, ht0⟩ := hj 0 _ rfl
      obtain ⟨v1, y1, hc1, hy1, ht1⟩ := hj 1 _ rfl
      obtain ⟨v2, y2, hc2, hy2, ht2⟩ := hj 2 _ rfl
      obtain ⟨v3, y3, hc3, hy3, ht3⟩ := hj 3 _ rfl
      obtain ⟨k, e0, _, _⟩ := DataW.trod_int Tryz.underlying3 ht0
      obtain ⟨tx, e1, ex1, _⟩ := DataW.trod_string Tryz.underlying9 ht1
      obtain ⟨nn, e2, _, hw2⟩ := DataW.trod_int Tryz.underlying2 ht2
      obtain ⟨pp, e3, _, _⟩ := DataW.trod_int Tryz.underlying3 ht3
      obtain rfl : v0 = .int .i64 k := by simpa using e0
      obtain rfl : v1 = .string tx := by simpa using e1
      obtain rfl : v2 = .int .i64 nn := by simpa using e2
      obtain rfl : v3 = .int .i64 pp := by simpa using e3
      have hsz : fs24.size = 4 := rfl
      rw [hsz] at hc0 hc1 hc2 hc3
      have hb1 : Rows.uptoBulk y1.1 ≤ 1048576 := by
        have m1 : y1.1 ∈ ys.map (·.1) := List.mem_map.2 ⟨y1, List.mem_of_getElem? hy1, rfl⟩
        have l1 := part_le m1
        have l2 : Rows.uptoBulk (D i) = Rows.uptoBulkAll (ys.map (·.1)) + 1 := by rw [hD]; simp [Rows.uptoBulk]
        have l3 := part_le (d := D i) (l := (List.range len).map D) (List.mem_map.2 ⟨i, List.mem_range.2 hilt, rfl⟩)
        have l4 : Rows.uptoBulkAll ((List.range len).map D) ≤ Rows.uptoBulk d := by
          have : d = .slice ((List.range len).map D) ((List.range (m - len)).map fun j => D (len + j)) := congrArg Prod.fst hx
          rw [this]
          simp only [Rows.uptoBulk]
          omega
        omega
      have hb2 : tx.size ≤ 1048576 := by
        rw [ex1] at hb1
        simp only [Rows.uptoBulk] at hb1
        rw [data_len] at hb1
        omega
      have ca := cell_add hc0
      refine ⟨⟨k, tx, nn, pp⟩, ⟨ca.1, (cell_add hc1).1, (cell_add hc2).1, (cell_add hc3).1⟩, ⟨hb2, ?_⟩, World.block_lt_of_cell? W ⟨a.block, _, none⟩ ca.1, fun e => ca.2 (by omega)⟩
      exact bounds_i64 hw2
    have hlen : len ≤ 1048576 := by
      have l4 : Rows.uptoBulkAll ((List.range len).map D) ≤ Rows.uptoBulk d := by
        have : d = .slice ((List.range len).map D) ((List.range (m - len)).map fun j => D (len + j)) := congrArg Prod.fst hx
        rw [this]
        simp only [Rows.uptoBulk]
        omega
      have l5 := bulk_len ((List.range len).map D)
      rw [List.length_map, List.length_range] at l5
      omega
    refine ⟨(List.range len).map fun i => if h : i < len then Classical.choose (hfour i h) else ⟨0, ⟨#[]⟩, 0, 0⟩, ⟨some a, cap, by simp, fun i hi => ?_⟩, fun t ht => ?_, by simpa using hlen⟩
    · have hil : i < len := by simpa using hi
      have hsp := Classical.choose_spec (hfour i hil)
      have hs0 := Classical.choose_spec (hfour 0 (by omega))
      obtain ⟨ab, ao, asp⟩ := a
      have hz : asp = none := hs0.2.2.2 rfl
      subst hz
      refine ⟨ab, ao, rfl, hsp.2.2.1, ?_⟩
      have e : ((List.range len).map fun i => if h : i < len then Classical.choose (hfour i h) else ⟨0, ⟨#[]⟩, 0, 0⟩)[i] = Classical.choose (hfour i hil) := by
        rw [List.getElem_map, List.getElem_range, dif_pos hil]
      rw [e]
      exact hsp.1
    · obtain ⟨i, hi, rfl⟩ := List.mem_map.1 ht
      have hil : i < len := List.mem_range.1 hi
      rw [dif_pos hil]
      exact (Classical.choose_spec (hfour i hil)).2.1
end Go.Proofs.YtijgmloodkbljaaGreatDoor

namespace Go.Proofs.YtijgmloodkbljaaGreatDoor
open Go Go.RowKit

def bitsTab : List Int := [0, 1, 56, 2, 57, 49, 28, 3, 61, 58, 42, 50, 38, 29, 17, 4, 62, 47, 59, 36, 45, 43, 51, 22, 53, 39, 33, 30, 24, 18, 12, 5, 63, 55, 48, 27, 60, 41, 37, 16, 46, 35, 44, 21, 52, 32, 23, 11, 54, 26, 40, 15, 34, 20, 31, 10, 25, 14, 19, 9, 13, 8, 7, 6]
theorem gBits : Tryz.prog.globalNamed "math/bits.deBruijn64tab" = some 7 := by kernel_rfl
theorem ty3 : (Tryz.prog.globals[3]?).map (·.type) = some 350 := by kernel_rfl
theorem ty7 : (Tryz.prog.globals[7]?).map (·.type) = some 365 := by kernel_rfl
theorem c192 : Tryz.prog.cellsOf 192 = 1 := by kernel_rfl
theorem c5 : Tryz.prog.cellsOf 5 = 1 := by kernel_rfl
theorem c350 : Tryz.prog.cellsOf 350 = 20 := by kernel_rfl
theorem c365 : Tryz.prog.cellsOf 365 = 64 := by kernel_rfl
theorem laid_of {W : World} (h : laidMetH Tryz.prog Rows.lexPrintsUptoRow.laid W) : Laid W := by
  have h := (laidMetH_iff.1 h).1
  have hp := laidMet.filter (fun x => x.1 == "internal/strconv.uint64pow10") h
  have hb := laidMet.filter (fun x => x.1 == "math/bits.deBruijn64tab") h
  have e1 : ((Rows.lexPrintsUptoRow.laid.filter fun x => x.2.handleName?.isNone).filter fun x => x.1 == "internal/strconv.uint64pow10") = [("internal/strconv.uint64pow10", Lib.tabData .u64 Lib.pow10Tab)] := by rfl
  have e2 : ((Rows.lexPrintsUptoRow.laid.filter fun x => x.2.handleName?.isNone).filter fun x => x.1 == "math/bits.deBruijn64tab") = [("math/bits.deBruijn64tab", Lib.tabData .u8 bitsTab)] := by rfl
  rw [e1] at hp
  rw [e2] at hb
  have t1 := Lib.tabIs_of_head (rest := []) gTab ty3 Tryz.underlying350 Tryz.underlying192 c192 c350 hp
  have t2 := Lib.tabIs_of_head (rest := []) gBits ty7 Tryz.underlying365 Tryz.underlying5 c5 c365 hb
  have hc : W.cell? ⟨7, 15, none⟩ = some (.int .u8 4) := t2.cell gBits 15 (by decide)
  exact ⟨hc, t1, by have h7 : 7 < W.heap.size := World.block_lt_of_cell? W ⟨7, 15, none⟩ hc; show 8 ≤ W.heap.size; omega⟩
end Go.Proofs.YtijgmloodkbljaaGreatDoor

namespace Go.Proofs.YtijgmloodkbljaaGreatDoor
open Go Go.RowKit

/-- The scanner at block c: the text, and where it stands. -/
def ScAt (c : Nat) (s : ByteArray) (k : Nat) (w : World) : Prop := w.heap[c]? = some (.cells #[.string s, .int .i64 (k : Int)] 110)
/-- Whatever lay lies as it lay, but for block c. -/
def GC (c : Nat) (w w' : World) : Prop := w.grownBy w' (some c)
def RetC (v : Value) (c : Nat) (s : ByteArray) (k : Nat) (w : World) (e : Ending) (w' : World) : Prop := e = .returned v ∧ ScAt c s k w' ∧ GC c w w'

theorem GC.refl (c : Nat) (w : World) : GC c w w := ⟨rfl, rfl, rfl, Nat.le_refl _, fun _ _ _ => rfl⟩
theorem GC.trans {c : Nat} {w w1 w2 : World} (h : GC c w w1) (h2 : GC c w1 w2) : GC c w w2 :=
  ⟨h2.os.trans h.os, h2.tape.trans h.tape, h2.output.trans h.output, Nat.le_trans h.size h2.size, fun k hk hr => (h2.block k (Nat.lt_of_lt_of_le hk h.size) hr).trans (h.block k hk hr)⟩
theorem GC.of_below {c : Nat} {w w' : World} (h : Below w.heap.size w w') : GC c w w' := ⟨h.os, h.tape, h.output, h.size, fun k hk _ => h.block k hk⟩
theorem GC.below {c : Nat} {w w' : World} (h : GC c w w') (B : Nat) (hB : B ≤ c) (hw : B ≤ w.heap.size) : Below B w w' :=
  ⟨h.os, h.tape, h.output, h.size, fun k hk => h.block k (by omega) (by simp; omega)⟩

def isBl (c : UInt8) : Bool := c == 32 || c == 10
/-- Where the first byte stands, from k on, that is no blank. -/
def skip (s : ByteArray) (k : Nat) : Nat := if h : k < s.size then (if isBl s[k] = true then skip s (k + 1) else k) else k
termination_by s.size - k
theorem skip_le (s : ByteArray) (k : Nat) (hk : k ≤ s.size) : k ≤ skip s k ∧ skip s k ≤ s.size := by
  induction hn : s.size - k generalizing k with
  | zero => rw [skip, dif_neg (by omega)]; omega
  | succ n ih =>
    rw [skip, dif_pos (by omega)]
    split
    · have := ih (k + 1) (by omega) (by omega); omega
    · omega

theorem GC.drewN {c : Nat} {w w1 : World} (h : GC c w w1) (a : Nat) : GC c w (w1.drewN a) := ⟨h.os, h.tape, h.output, h.size, h.block⟩
theorem ScAt.drewN {c : Nat} {s : ByteArray} {k : Nat} {w : World} (h : ScAt c s k w) (a : Nat) : ScAt c s k (w.drewN a) := h
theorem setCell_block (w : World) (c : Nat) (o : Nat) (v : Value) (cs : Array Value) (t : TypeId) (h : w.heap[c]? = some (.cells cs t)) : (w.setCell ⟨c, o, none⟩ v).heap[c]? = some (.cells (cs.setIfInBounds o v) t) ∧ w.grownBy (w.setCell ⟨c, o, none⟩ v) (some c) := by
  refine ⟨?_, rfl, rfl, rfl, ?_, ?_⟩
  · show (w.heap.modify c _)[c]? = _
    rw [Array.getElem?_modify, if_pos rfl, h]
    rfl
  · show w.heap.size ≤ (w.heap.modify c _).size
    simp
  · intro k _ hr
    show (w.heap.modify c _)[k]? = _
    rw [Array.getElem?_modify, if_neg (by intro e; exact hr (by rw [e]))]
theorem ScAt.set {c : Nat} {s : ByteArray} {k : Nat} {w : World} (h : ScAt c s k w) (j : Nat) : ScAt c s j (w.setCell ⟨c, 1, none⟩ (.int .i64 (j : Int))) ∧ GC c w (w.setCell ⟨c, 1, none⟩ (.int .i64 (j : Int))) :=
  setCell_block w c 1 _ _ _ h
theorem isBl_iff (x : UInt8) : isBl x = true ↔ (((x.toNat : Int) == 32) = true ∨ (((x.toNat : Int) == 32) = false ∧ ((x.toNat : Int) == 10) = true)) := by
  unfold isBl
  have e : ∀ y : UInt8, (x == y) = ((x.toNat : Int) == (y.toNat : Int)) := fun y => by
    by_cases h : x = y
    · subst h; simp
    · have : ¬ x.toNat = y.toNat := fun h2 => h (UInt8.toNat_inj.1 h2)
      have h3 : ((x.toNat : Int) == (y.toNat : Int)) = false := by simp; omega
      rw [h3]; simpa using h
  rw [e 32, e 10]
  show (((x.toNat : Int) == 32) || ((x.toNat : Int) == 10)) = true ↔ _
  cases ((x.toNat : Int) == 32) <;> simp
def posOf (c : Nat) (w : World) : Nat := match w.heap[c]? with | some (.cells cs _ _) => (intOf (cs.getD 1 undef)).toNat | _ => 0
theorem ScAt.pos {c : Nat} {s : ByteArray} {k : Nat} {w : World} (h : ScAt c s k w) : posOf c w = k := by unfold posOf; rw [h]; rfl

theorem posOf_set {c : Nat} {s : ByteArray} {k : Nat} {w : World} (h : ScAt c s k w) : posOf c (w.setCell ⟨c, 1, none⟩ (.int .i64 ((k : Int) + 1))) = k + 1 := (h.set (k + 1)).1.pos

set_option maxHeartbeats 4000000 in
set_option maxRecDepth 100000 in
theorem f83_blanks (c : Nat) (s : ByteArray) (k : Nat) (w : World) (h : ScAt c s k w) (hk : k ≤ s.size) (hs : s.size ≤ 1048576) :
    Calls Tryz.prog 83 #[.pointer (some ⟨c, 0, none⟩)] w (RetC (.bool (decide (skip s k < s.size))) c s (skip s k) w) := by
  generalize hV : decide (skip s k < s.size) = V
  generalize hK : skip s k = K at *
  have HV := Lib.hid hV
  clear hV
  have HK := Lib.hid hK
  clear hK
  go_enter Tryz.func83, Tryz.ntmps83
  go_wp2
  go_step3
  go_wp2
  go_step3
  go_wp2
  go_loopw [] (fun wr => ∃ j : Nat, j ≤ s.size ∧ skip s j = K ∧ ScAt c s j wr ∧ GC c w wr) (fun wr => s.size - posOf c wr)
  case atStart => exact ⟨k, hk, HK.out, h, GC.refl _ _⟩
  case round =>
    obtain ⟨j, hj, hjk, hsc1, hg1⟩ := hrel
    have hpos := hsc1.pos
    have c0 : wr.cell? ⟨c, 0, none⟩ = some (.string s) := Lib.cell_of_heap hsc1 0
    have c1 : wr.cell? ⟨c, 1, none⟩ = some (.int .i64 j) := Lib.cell_of_heap hsc1 1
    by_cases hlt : j < s.size
    · have hlt' : (j : Int) < s.size := by omega
      go_wp2
      go_quiet (fail)
      go_wp2
      generalize hw2 : wr.drewN _ = w2
      have hsc2 : ScAt c s j w2 := by rw [← hw2]; exact hsc1
      have hg2 : GC c w w2 := by rw [← hw2]; exact hg1.drewN _
      clear hsc1 hg1 c0 c1 hw2
      have c0 : w2.cell? ⟨c, 0, none⟩ = some (.string s) := Lib.cell_of_heap hsc2 0
      have c1 : w2.cell? ⟨c, 1, none⟩ = some (.int .i64 j) := Lib.cell_of_heap hsc2 1
      have cf : w2.frozen? ⟨c, 1, none⟩ = false := Lib.frozen_of_heap hsc2 1
      by_cases hb : isBl s[j] = true
      · have hskip : Hid (skip s j = skip s (j + 1)) := by unfold Hid; rw [skip, dif_pos hlt, if_pos hb]
        have hor : ((s[j].toNat : Int) == 32) = true ∨ (((s[j].toNat : Int) == 32) = false ∧ ((s[j].toNat : Int) == 10) = true) := (isBl_iff _).1 hb
        clear hb
        rcases hor with e1 | ⟨e1, e2⟩
        all_goals
          go_quiet (fail)
          go_wp2
          generalize hw3 : w2.drewN _ = w3
          have hsc3 : ScAt c s j w3 := by rw [← hw3]; exact hsc2
          have hg3 : GC c w w3 := by rw [← hw3]; exact hg2.drewN _
          clear hsc2 hg2 c0 c1 hw3
          have c0 : w3.cell? ⟨c, 0, none⟩ = some (.string s) := Lib.cell_of_heap hsc3 0
          have c1 : w3.cell? ⟨c, 1, none⟩ = some (.int .i64 j) := Lib.cell_of_heap hsc3 1
          have cf : w3.frozen? ⟨c, 1, none⟩ = false := Lib.frozen_of_heap hsc3 1
          go_wp2
          go_roundw
          case rel =>
            obtain ⟨h4, h5⟩ := hsc3.set (j + 1)
            exact ⟨j + 1, by omega, by rw [← hjk, hskip.out], h4, hg3.trans h5⟩
          case measure =>
            rw [posOf_set hsc3, hpos]
            omega
      · have hskip : j = K := by rw [← hjk, skip, dif_pos hlt, if_neg hb]
        have e1 : ((s[j].toNat : Int) == 32) = false := by
          rw [isBl_iff] at hb
          cases h1 : ((s[j].toNat : Int) == 32)
          · rfl
          · exact absurd (.inl h1) hb
        have e2 : ((s[j].toNat : Int) == 10) = false := by
          rw [isBl_iff] at hb
          cases h1 : ((s[j].toNat : Int) == 10)
          · rfl
          · exact absurd (.inr ⟨e1, h1⟩) hb
        obtain rfl : true = V := by rw [← HV.out, ← hskip]; exact (decide_eq_true hlt).symm
        clear hb hjk HK HV
        subst hskip
        go_quiet (fail)
        go_wp2
        generalize hw3 : w2.drewN _ = w3
        have hsc3 : ScAt c s j w3 := by rw [← hw3]; exact hsc2
        have hg3 : GC c w w3 := by rw [← hw3]; exact hg2.drewN _
        clear hsc2 hg2 c0 c1 hw3
        have c0 : w3.cell? ⟨c, 0, none⟩ = some (.string s) := Lib.cell_of_heap hsc3 0
        have c1 : w3.cell? ⟨c, 1, none⟩ = some (.int .i64 j) := Lib.cell_of_heap hsc3 1
        have cf : w3.frozen? ⟨c, 1, none⟩ = false := Lib.frozen_of_heap hsc3 1
        go_goals
        go_quiet (fail)
        go_wp2
        generalize hw4 : w3.drewN _ = w4
        have hsc4 : ScAt c s j w4 := by rw [← hw4]; exact hsc3
        have hg4 : GC c w w4 := by rw [← hw4]; exact hg3.drewN _
        clear hsc3 hg3 c0 c1 hw4
        have c0 : w4.cell? ⟨c, 0, none⟩ = some (.string s) := Lib.cell_of_heap hsc4 0
        have c1 : w4.cell? ⟨c, 1, none⟩ = some (.int .i64 j) := Lib.cell_of_heap hsc4 1
        have cf : w4.frozen? ⟨c, 1, none⟩ = false := Lib.frozen_of_heap hsc4 1
        rw [Exit.noGoto_ret]
        go_ret
        exact ⟨rfl, hsc4, hg4⟩
    · have hskip : j = K := by rw [← hjk, skip, dif_neg hlt]
      have hlt' : (s.size : Int) ≤ j := by omega
      obtain rfl : false = V := by rw [← HV.out, ← hskip]; exact (decide_eq_false hlt).symm
      clear hjk HK HV hpos
      subst hskip
      go_wp2
      go_quiet (fail)
      go_wp2
      generalize hw2 : wr.drewN _ = w2
      have hsc2 : ScAt c s j w2 := by rw [← hw2]; exact hsc1
      have hg2 : GC c w w2 := by rw [← hw2]; exact hg1.drewN _
      clear hsc1 hg1 c0 c1 hw2
      have c0 : w2.cell? ⟨c, 0, none⟩ = some (.string s) := Lib.cell_of_heap hsc2 0
      have c1 : w2.cell? ⟨c, 1, none⟩ = some (.int .i64 j) := Lib.cell_of_heap hsc2 1
      go_quiet (fail)
      go_wp2
      generalize hw3 : w2.drewN _ = w3
      have hsc3 : ScAt c s j w3 := by rw [← hw3]; exact hsc2
      have hg3 : GC c w w3 := by rw [← hw3]; exact hg2.drewN _
      clear hsc2 hg2 c0 c1 hw3
      have c0 : w3.cell? ⟨c, 0, none⟩ = some (.string s) := Lib.cell_of_heap hsc3 0
      have c1 : w3.cell? ⟨c, 1, none⟩ = some (.int .i64 j) := Lib.cell_of_heap hsc3 1
      rw [Exit.noGoto_ret]
      go_ret
      exact ⟨rfl, hsc3, hg3⟩
end Go.Proofs.YtijgmloodkbljaaGreatDoor

namespace Go.Proofs.YtijgmloodkbljaaGreatDoor
open Go Go.RowKit

abbrev zeroV : Value := .agg #[.int .i64 0, .string ⟨#[]⟩, .int .i64 0, .int .i64 0]
/-- What 'one' is known to hand back at the place K: a token (its place 0), and how many bytes it has. -/
def OneAt (t : Tok) (n : Int) (w : World) (e : Ending) (w' : World) : Prop := e = .returned (.tuple #[.agg #[.int .i64 t.kind, .string t.text, .int .i64 t.n, .int .i64 0], .int .i64 n]) ∧ Below w.heap.size w w'

theorem heap_alloc_old' (w : World) (o : Obj) (i : Nat) (h : i < w.heap.size) : (w.alloc o).heap[i]? = w.heap[i]? := by
  show (w.heap.push o)[i]? = w.heap[i]?
  rw [Array.getElem?_push, if_neg (Nat.ne_of_lt h)]
theorem alloc_kept {w w2 : World} {o : Obj} (h : Below (w.alloc o).heap.size (w.alloc o) w2) : w2.heap[w.heap.size]? = some o :=
  (h.block w.heap.size (by simp)).trans (heap_alloc_new w o)
theorem alloc_kept' {w w2 : World} {o : Obj} (h : Below (w.alloc o).drew.heap.size (w.alloc o).drew w2) : w2.heap[w.heap.size]? = some o :=
  (h.block w.heap.size (by show _ < (w.alloc o).heap.size; simp)).trans (heap_alloc_new w o)
theorem four_of {w : World} {b : Nat} {v0 v1 v2 v3 : Value} {t : TypeId} (h : w.heap[b]? = some (.cells #[v0, v1, v2, v3] t)) :
    (w.cell? ⟨b, 0, none⟩ = some v0 ∧ w.cell? ⟨b, 1, none⟩ = some v1 ∧ w.cell? ⟨b, 2, none⟩ = some v2 ∧ w.cell? ⟨b, 3, none⟩ = some v3) ∧
    (w.frozen? ⟨b, 0, none⟩ = false ∧ w.frozen? ⟨b, 1, none⟩ = false ∧ w.frozen? ⟨b, 2, none⟩ = false ∧ w.frozen? ⟨b, 3, none⟩ = false) :=
  ⟨⟨Lib.cell_of_heap h 0, Lib.cell_of_heap h 1, Lib.cell_of_heap h 2, Lib.cell_of_heap h 3⟩, ⟨Lib.frozen_of_heap h 0, Lib.frozen_of_heap h 1, Lib.frozen_of_heap h 2, Lib.frozen_of_heap h 3⟩⟩

theorem results_cell_tmp_row {P : Program} {fn : Func} {p u : Tmp} {ty : TypeId} (h : fn.results = #[.cell p ty, .tmp u]) (tmps : Array Value) (w : World) (g : Nat) (t : TypeId) (cs : Array Value) (fr : Nat × Nat) (d : TypeDesc)
    (hp : tmps.getD p undef = .pointer (some ⟨g, 0, none⟩)) (hg : w.heap[g]? = some (.cells cs t fr))
    (hu : P.underlying ty = some d) (hd : (match d with | .struct _ | .array _ _ => true | _ => false) = true) (hi : (P.info? ty).map (·.size) = some cs.size) :
    (results fn tmps).run P w = .ok (.tuple #[.agg cs, tmps.getD u undef]) w := by
  rw [results_cell_tmp h, hp]
  simp [asAddr, run_loadVar_row w g t ty cs fr d hg hu hd hi, Result.andThen]

/-- Behind the region: the token lies in block b4, the scanner stands as it stood. -/
def R3 (c : Nat) (s : ByteArray) (K : Nat) (cs : Array Value) (W : World) (b4 : Nat) (wc : World) : Prop := wc.heap[b4]? = some (.cells cs 24) ∧ ScAt c s K wc ∧ GC c W wc ∧ W.heap.size ≤ b4
theorem set4 {w : World} {b : Nat} {a0 a1 a2 a3 v0 v1 v2 v3 : Value} {t : TypeId} (h : w.heap[b]? = some (.cells #[a0, a1, a2, a3] t)) :
    ((((w.setCell ⟨b, 0, none⟩ v0).setCell ⟨b, 1, none⟩ v1).setCell ⟨b, 2, none⟩ v2).setCell ⟨b, 3, none⟩ v3).heap[b]? = some (.cells #[v0, v1, v2, v3] t) ∧
    w.grownBy ((((w.setCell ⟨b, 0, none⟩ v0).setCell ⟨b, 1, none⟩ v1).setCell ⟨b, 2, none⟩ v2).setCell ⟨b, 3, none⟩ v3) (some b) := by
  obtain ⟨h1, g1⟩ := setCell_block w b 0 v0 _ _ h
  obtain ⟨h2, g2⟩ := setCell_block _ b 1 v1 _ _ h1
  obtain ⟨h3, g3⟩ := setCell_block _ b 2 v2 _ _ h2
  obtain ⟨h4, g4⟩ := setCell_block _ b 3 v3 _ _ h3
  exact ⟨h4, GC.trans (c := b) (GC.trans (c := b) (GC.trans (c := b) g1 g2) g3) g4⟩
theorem r3_new {c : Nat} {s : ByteArray} {K : Nat} {cs : Array Value} {W w1 w2 : World} (h : ScAt c s K w1) (hg : GC c W w1) (hb : Below w1.drew.heap.size w1.drew w2) : R3 c s K cs W w2.heap.size (w2.alloc (.cells cs 24)) := by
  have hcl : c < w1.heap.size := (Array.getElem?_eq_some_iff.1 h).1
  have hs : w1.heap.size ≤ w2.heap.size := hb.size
  refine ⟨heap_alloc_new _ _, (heap_alloc_old' w2 _ _ (by omega)).trans ((hb.block c hcl).trans h), ?_, Nat.le_trans hg.size hs⟩
  refine ⟨hb.os.trans hg.os, hb.tape.trans hg.tape, hb.output.trans hg.output, ?_, fun k hk hr => ?_⟩
  · have := hg.size
    show _ ≤ (w2.alloc _).heap.size
    simp
    omega
  · have := hg.size
    exact (heap_alloc_old' w2 _ _ (by omega)).trans ((hb.block k (by show k < w1.heap.size; omega)).trans (hg.block k hk hr))
theorem r3_old {c : Nat} {s : ByteArray} {K : Nat} {a0 a1 a2 a3 v0 v1 v2 v3 : Value} {W w1 w2 : World} (h : ScAt c s K w1) (hg : GC c W w1) (hb : Below (w1.alloc (.cells #[a0, a1, a2, a3] 24)).drew.heap.size (w1.alloc (.cells #[a0, a1, a2, a3] 24)).drew w2) :
    R3 c s K #[v0, v1, v2, v3] W w1.heap.size ((((w2.setCell ⟨w1.heap.size, 0, none⟩ v0).setCell ⟨w1.heap.size, 1, none⟩ v1).setCell ⟨w1.heap.size, 2, none⟩ v2).setCell ⟨w1.heap.size, 3, none⟩ v3) := by
  have hcl : c < w1.heap.size := (Array.getElem?_eq_some_iff.1 h).1
  have hx := alloc_kept' hb
  obtain ⟨h4, g4⟩ := set4 (v0 := v0) (v1 := v1) (v2 := v2) (v3 := v3) hx
  have hsz : (w1.alloc (.cells #[a0, a1, a2, a3] 24)).heap.size ≤ w2.heap.size := hb.size
  simp only [World.size_alloc] at hsz
  have hk2 : ∀ k, k < w1.heap.size → w2.heap[k]? = w1.heap[k]? := fun k hk => (hb.block k (by show k < (w1.alloc _).heap.size; simp; omega)).trans (heap_alloc_old' w1 _ _ hk)
  have hk4 : ∀ k, k < w1.heap.size → ((((w2.setCell ⟨w1.heap.size, 0, none⟩ v0).setCell ⟨w1.heap.size, 1, none⟩ v1).setCell ⟨w1.heap.size, 2, none⟩ v2).setCell ⟨w1.heap.size, 3, none⟩ v3).heap[k]? = w1.heap[k]? :=
    fun k hk => (g4.block k (by omega) (by simp; omega)).trans (hk2 k hk)
  refine ⟨h4, (hk4 c hcl).trans h, ?_, hg.size⟩
  refine ⟨g4.os.trans (hb.os.trans hg.os), g4.tape.trans (hb.tape.trans hg.tape), g4.output.trans (hb.output.trans hg.output), ?_, fun k hk hr => ?_⟩
  · have := hg.size
    have := g4.size
    omega
  · have := hg.size
    exact (hk4 k (by omega)).trans (hg.block k hk hr)

set_option maxHeartbeats 4000000 in
set_option maxRecDepth 100000 in
theorem f161_some (c : Nat) (s : ByteArray) (k K n : Nat) (t : Tok) (w : World) (h : ScAt c s k w) (hk : k ≤ s.size) (hs : s.size ≤ 1048576) (hL : Laid w) (hc : 8 ≤ c)
    (hK : skip s k = K) (hlt : K < s.size) (h228 : ∀ W, Laid W → Calls Tryz.prog 228 #[.string (s.extract K s.size)] W (OneAt t n W))
    (ht : t.text.size ≤ 1048576) (hpos : t.pos = K) (hok : t.ok = true) (hn : 0 < n) (hn2 : n ≤ 1048576) :
    Calls Tryz.prog 161 #[.pointer (some ⟨c, 0, none⟩)] w (RetC (.tuple #[t.val, .bool true]) c s (K + n) w) := by
  obtain ⟨tk, tt, tn, tp⟩ := t
  dsimp only at hpos
  subst hpos
  have h83 := f83_blanks c s k (w.alloc (.cells #[.int .i64 0, .string ⟨#[]⟩, .int .i64 0, .int .i64 0] 24)) (by
    have hcl : c < w.heap.size := (Array.getElem?_eq_some_iff.1 h).1
    exact (heap_alloc_old' w _ _ hcl).trans h) hk hs
  rw [hK, decide_eq_true hlt] at h83
  have hlt' : (K : Int) < s.size := by omega
  go_enter Tryz.func161, Tryz.ntmps161
  go_wp2_with (go_at_call 83; refine h83.mono ?_; clear h83)
  rintro e w1 ⟨rfl, hsc1, hg1⟩
  have c0 : w1.cell? ⟨c, 0, none⟩ = some (.string s) := Lib.cell_of_heap hsc1 0
  have c1 : w1.cell? ⟨c, 1, none⟩ = some (.int .i64 K) := Lib.cell_of_heap hsc1 1
  have hcl1 : c < w1.heap.size := (Array.getElem?_eq_some_iff.1 hsc1).1
  have hL1 : Laid w1 := (hL.alloc _).below (hg1.below 8 hc (by have := hL.size; simp; omega)) (Nat.le_refl _)
  have hL1d : Laid w1.drew := hL1.below ((Below.refl 8 w1).drew) (Nat.le_refl _)
  have hb2c : w.heap.size ≠ c := by
    have hcl : c < w.heap.size := (Array.getElem?_eq_some_iff.1 h).1
    omega
  go_upto_region 3 with fail
  go_cut [4, 5] from 6 (fun s4 s5 wc => ∃ b4 : Nat, s4 = .pointer (some ⟨b4, 0, none⟩) ∧ s5 = .int .i64 n ∧ R3 c s K #[.int .i64 tk, .string tt, .int .i64 tn, .int .i64 0] (w.alloc (.cells #[.int .i64 0, .string ⟨#[]⟩, .int .i64 0, .int .i64 0] 24)) b4 wc)
  case first =>
    go_region_with (go_at_call 228; refine (h228 _ (by first | exact hL1d | exact hL1d.alloc _)).mono ?_; rintro e w2 ⟨rfl, hb2⟩; (first | (have hx := alloc_kept' hb2; obtain ⟨⟨z0, z1, z2, z3⟩, y0, y1, y2, y3⟩ := four_of hx) | skip))
    all_goals (go_wp2_with fail; go_meet)
    all_goals first | with_reducible exact ⟨_, rfl, rfl, r3_new hsc1 hg1 hb2⟩ | with_reducible exact ⟨_, rfl, rfl, r3_old hsc1 hg1 hb2⟩
  case rest =>
    obtain ⟨b4, rfl, rfl, h4, hsc3, hg3, hlt4⟩ := hcut
    have hb4c : b4 ≠ c := by
      have hcl : c < w.heap.size := (Array.getElem?_eq_some_iff.1 h).1
      have : w.heap.size + 1 ≤ b4 := by simpa using hlt4
      omega
    obtain ⟨⟨z0, z1, z2, z3⟩, y0, y1, y2, y3⟩ := four_of h4
    have c0 : wc.cell? ⟨c, 0, none⟩ = some (.string s) := Lib.cell_of_heap hsc3 0
    have c1 : wc.cell? ⟨c, 1, none⟩ = some (.int .i64 K) := Lib.cell_of_heap hsc3 1
    have hz2 : wc.heap[w.heap.size]? = some (.cells #[.int .i64 0, .string ⟨#[]⟩, .int .i64 0, .int .i64 0] 24) := (hg3.block w.heap.size (by simp) (by simp; omega)).trans (heap_alloc_new w _)
    have hb42 : b4 ≠ w.heap.size := by
      have : w.heap.size + 1 ≤ b4 := by simpa using hlt4
      omega
    have hlt5 : w.heap.size + 1 ≤ b4 := by simpa using hlt4
    obtain ⟨h5, g5⟩ := setCell_block wc b4 3 (.int .i64 (K : Int)) _ _ h4
    have hcl3 : c < wc.heap.size := (Array.getElem?_eq_some_iff.1 hsc3).1
    have hsc5 : ScAt c s K (wc.setCell ⟨b4, 3, none⟩ (.int .i64 (K : Int))) := (g5.block c hcl3 (by simp; omega)).trans hsc3
    have hz5 : (wc.setCell ⟨b4, 3, none⟩ (.int .i64 (K : Int))).heap[w.heap.size]? = _ := (g5.block w.heap.size (Array.getElem?_eq_some_iff.1 hz2).1 (by simp; omega)).trans hz2
    have hzl : w.heap.size < (wc.setCell ⟨b4, 3, none⟩ (.int .i64 (K : Int))).heap.size := (Array.getElem?_eq_some_iff.1 hz5).1
    go_wp2_with (go_at_call 15; refine (f15_Check _ _ _ _ _ ht).mono ?_; rw [hok, show checkE true = 0 from rfl])
    rintro e w4 ⟨rfl, hb4⟩
    have hsc6 : ScAt c s K w4 := (hb4.block c (Array.getElem?_eq_some_iff.1 hsc5).1).trans hsc5
    have hz6 := (hb4.block w.heap.size hzl).trans hz5
    have h6 := (hb4.block b4 (Array.getElem?_eq_some_iff.1 h5).1).trans h5
    have hg6 : ∀ k, k < w.heap.size → k ≠ c → w4.heap[k]? = w.heap[k]? := fun k hk hkc => by
      have h1 := hg3.block k (by simp; omega) (by simp; omega)
      have h2 := g5.block k (by have := hg3.size; simp at this; omega) (by simp; omega)
      exact (hb4.block k (by omega)).trans (h2.trans (h1.trans (heap_alloc_old' w _ k hk)))
    clear c0 c1 z0 z1 z2 z3 y0 y1 y2 y3
    obtain ⟨⟨z0, z1, z2, z3⟩, y0, y1, y2, y3⟩ := four_of h6
    obtain ⟨⟨x0, x1, x2, x3⟩, v0, v1, v2, v3⟩ := four_of hz6
    have c0 : w4.cell? ⟨c, 0, none⟩ = some (.string s) := Lib.cell_of_heap hsc6 0
    have c1 : w4.cell? ⟨c, 1, none⟩ = some (.int .i64 K) := Lib.cell_of_heap hsc6 1
    have cf : w4.frozen? ⟨c, 1, none⟩ = false := Lib.frozen_of_heap hsc6 1
    have hos : w4.os = w.os ∧ w4.tape = w.tape ∧ w4.output = w.output ∧ w.heap.size ≤ w4.heap.size := ⟨hb4.os.trans (g5.os.trans hg3.os), hb4.tape.trans (g5.tape.trans hg3.tape), hb4.output.trans (g5.output.trans hg3.output), by have := hb4.size; omega⟩
    have HH := Lib.hid hg6
    have HO := Lib.hid hos
    clear hg6 hos
    have hne : Hid (w.heap.size ≠ c) := hb2c
    generalize hbb : w.heap.size = b2 at *
    have HBB := Lib.hid hbb
    clear hbb
    have hn0 : ((n : Int) == 0) = false := by simp; omega
    obtain ⟨hs7, g7⟩ := hsc6.set (K + n)
    have hz7 := (g7.block b2 (Array.getElem?_eq_some_iff.1 hz6).1 (by simp; exact hne.out)).trans hz6
    have ekn : ((K + n : Nat) : Int) = (K : Int) + n := by omega
    rw [ekn] at hs7 g7 hz7
    obtain ⟨h8, g8⟩ := set4 (v0 := .int .i64 tk) (v1 := .string tt) (v2 := .int .i64 tn) (v3 := .int .i64 (K : Int)) hz7
    have hs8 := (g8.block c (Array.getElem?_eq_some_iff.1 hs7).1 (by simp; exact fun e => hne.out e.symm)).trans hs7
    have H8 := Lib.hid h8
    have HS8 := Lib.hid hs8
    have G8 := Lib.hid g8
    have G7 := Lib.hid g7
    clear h8 hs8 g8 g7 hs7 hz7
    go_wp2
    refine bodyPost_ret (results_cell_tmp_row rfl _ _ b2 24 #[.int .i64 tk, .string tt, .int .i64 tn, .int .i64 K] (0, 0) _ rfl H8.out Tryz.underlying24 rfl (by kernel_rfl)) rfl ?_
    refine ⟨rfl, ?_, ?_⟩
    · have h := HS8.out
      unfold ScAt
      rw [ekn]
      exact h
    · refine ⟨G8.out.os.trans (G7.out.os.trans HO.out.1), G8.out.tape.trans (G7.out.tape.trans HO.out.2.1), G8.out.output.trans (G7.out.output.trans HO.out.2.2.1), ?_, fun k hk hr => ?_⟩
      · have h1 := G8.out.size
        have h2 := G7.out.size
        have h3 := HO.out.2.2.2
        have h4 := HBB.out
        omega
      · have hk2 : k < b2 := by rw [← HBB.out]; exact hk
        have hkc : k ≠ c := fun e => hr (by rw [e])
        have h2 := G7.out.size
        have h3 := HO.out.2.2.2
        exact (G8.out.block k (by omega) (by simp; omega)).trans ((G7.out.block k (by omega) hr).trans (HH.out k hk2 hkc))

set_option maxHeartbeats 4000000 in
set_option maxRecDepth 100000 in
theorem f161_end (c : Nat) (s : ByteArray) (k K : Nat) (w : World) (h : ScAt c s k w) (hk : k ≤ s.size) (hs : s.size ≤ 1048576)
    (hK : skip s k = K) (hlt : ¬ K < s.size) : Calls Tryz.prog 161 #[.pointer (some ⟨c, 0, none⟩)] w (RetC (.tuple #[zeroV, .bool false]) c s K w) := by
  have hcl : c < w.heap.size := (Array.getElem?_eq_some_iff.1 h).1
  have h83 := f83_blanks c s k (w.alloc (.cells #[.int .i64 0, .string ⟨#[]⟩, .int .i64 0, .int .i64 0] 24)) ((heap_alloc_old' w _ _ hcl).trans h) hk hs
  rw [hK, decide_eq_false hlt] at h83
  go_enter Tryz.func161, Tryz.ntmps161
  go_wp2_with (go_at_call 83; refine h83.mono ?_; clear h83)
  rintro e w1 ⟨rfl, hsc1, hg1⟩
  have hz1 : w1.heap[w.heap.size]? = some (.cells #[.int .i64 0, .string ⟨#[]⟩, .int .i64 0, .int .i64 0] 24) := (hg1.block w.heap.size (by simp) (by simp; omega)).trans (heap_alloc_new w _)
  have hne : Hid (w.heap.size ≠ c) := by unfold Hid; omega
  generalize hbb : w.heap.size = b2 at hz1 hne
  have HBB := Lib.hid hbb
  obtain ⟨⟨z0, z1, z2, z3⟩, y0, y1, y2, y3⟩ := four_of hz1
  obtain ⟨h8, g8⟩ := set4 (v0 := .int .i64 0) (v1 := .string ⟨#[]⟩) (v2 := .int .i64 0) (v3 := .int .i64 0) hz1
  have hs8 := (g8.block c (Array.getElem?_eq_some_iff.1 hsc1).1 (by simp; exact fun e => hne.out e.symm)).trans hsc1
  have H8 := Lib.hid h8
  have HS8 := Lib.hid hs8
  have G8 := Lib.hid g8
  have G1 := Lib.hid hg1
  clear h8 hs8 g8 hg1
  go_wp2
  refine bodyPost_ret (results_cell_tmp_row rfl _ _ b2 24 #[.int .i64 0, .string ⟨#[]⟩, .int .i64 0, .int .i64 0] (0, 0) _ rfl H8.out Tryz.underlying24 rfl (by kernel_rfl)) rfl ?_
  refine ⟨rfl, HS8.out, G8.out.os.trans G1.out.os, G8.out.tape.trans G1.out.tape, G8.out.output.trans G1.out.output, ?_, fun k hk hr => ?_⟩
  · have h1 := G8.out.size
    have h2 := G1.out.size
    simp at h2
    omega
  · have h2 := G1.out.size
    simp at h2
    have h3 := HBB.out
    exact (G8.out.block k (by omega) (by simp; omega)).trans ((G1.out.block k (by simp; omega) hr).trans (heap_alloc_old' w _ k hk))
end Go.Proofs.YtijgmloodkbljaaGreatDoor
