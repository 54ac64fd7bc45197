import Derived.Test.YtijgmloodkbljaaGreatDoorPr2
import Derived.Test.YtijgmloodkbljaaGreatDoorRows
import Derived.Deep.Slices
import Derived.Deep.Fields
import Derived.ChangeSame
import Derived.OpenShut
namespace Go.Proofs.YtijgmloodkbljaaGreatDoor
open Go Go.RowKit Go.ChangeShapes Go.WideShapes Go.Deep

section
variable {H : Type} {enc : TypeId × Value → H} {P : Program} {w : World} {base : Nat} {spare : Nat → Bool} {held : Bool}
theorem open_slice_fields {t e : TypeId} {fs : Array Field} {fuel : Nat} {cs : List Value} {x : DataW H × List MemPlace} (ht : P.underlying t = some (.slice e)) (he : P.underlying e = some (.struct fs))
    (hone : oneCellFields P fs = true) (hC : P.cellsOf e = fs.size) (h : DataW.trod enc P w base spare held fuel t cs = some x) :
    (cs = [.slice none 0 0] ∧ x = (.nil, [])) ∨
    ∃ (a : Addr) (len cap m : Nat) (D : Nat → DataW H) (Pl : Nat → List MemPlace), cs = [.slice (some a) len cap] ∧ base ≤ a.block ∧ len ≤ cap ∧ cap ≤ maxLen ∧ m = (if spare a.block then cap else len) ∧
      x = (.slice ((List.range len).map D) ((List.range (m - len)).map fun j => D (len + j)), MemPlace.row a (m * fs.size) ++ (List.range m).flatMap Pl) ∧
      ∀ i, i < m → ∃ (ys : List (DataW H × List MemPlace)) (n : Nat), D i = .agg (ys.map (·.1)) ∧ Pl i = ys.flatMap (·.2) ∧ ys.length = fs.size ∧
        ∀ (j : Nat) (f : Field), fs[j]? = some f → ∃ (v : Value) (y : DataW H × List MemPlace), w.cell? (a.add (i * fs.size + j)) = some v ∧ ys[j]? = some y ∧ DataW.trod enc P w base spare held n f.type [v] = some y := by
  rcases open_slice ht h with h0 | ⟨a, len, cap, m, n, D, Pl, hcs, hb, hl, hm, hmm, hx, hi⟩
  · exact .inl h0
  · refine .inr ⟨a, len, cap, m, D, Pl, hcs, hb, hl, hm, hmm, by rw [hC] at hx; exact hx, fun i him => ?_⟩
    obtain ⟨cs', hc, ht'⟩ := hi i him
    rw [hC] at hc
    obtain ⟨ys, n', hn', hy, hlen, hyl, hf⟩ := DataW.trod_struct he ht'
    obtain ⟨_, hcl, hat⟩ := World.cells?_some hc
    simp only [Prod.mk.injEq] at hy
    refine ⟨ys, n', hy.1, hy.2, hyl, fun j f hj => ?_⟩
    obtain ⟨ho, hk⟩ := hone_of hone j f hj
    have hjl : j < fs.size := (Array.getElem?_eq_some_iff.1 hj).1
    have hcell := hat j hjl
    have hv : cs'[j]? = some (cs'[j]'(by omega)) := List.getElem?_eq_getElem (by omega)
    have h1 := hf j f hj
    rw [ho, hk] at h1
    have hone' : (cs'.drop j).take 1 = [cs'[j]'(by omega)] := by
      rw [List.drop_eq_getElem_cons (by omega)]
      rfl
    rw [hone'] at h1
    have hys : ys[j]? = some (ys[j]'(by omega)) := List.getElem?_eq_getElem (by omega)
    refine ⟨_, _, ?_, hys, h1.trans hys⟩
    rw [← Go.Deep.add_add, hcell, hv]
end

theorem cells24 : Tryz.prog.cellsOf 24 = 4 := by kernel_rfl
def fs24 : Array Field := #[{ name := "Kind", type := 3, offset := 0, embedded := false, tag := "", pkgPath := "", byteOffset := 0 }, { name := "Text", type := 9, offset := 1, embedded := false, tag := "", pkgPath := "", byteOffset := 8 }, { name := "N", type := 2, offset := 2, embedded := false, tag := "", pkgPath := "", byteOffset := 24 }, { name := "At", type := 3, offset := 3, embedded := false, tag := "", pkgPath := "", byteOffset := 32 }]
theorem under24 : Tryz.prog.underlying 24 = some (.struct fs24) := Tryz.underlying24
theorem hone24 : oneCellFields Tryz.prog fs24 = true := by kernel_rfl
theorem hcells24 : Tryz.prog.cellsOf 24 = fs24.size := by rw [cells24]; rfl
theorem part_le {H : Type} {d : DataW H} {l : List (DataW H)} (h : d ∈ l) : Rows.uptoBulk d ≤ Rows.uptoBulkAll l := by
  induction l with
  | nil => cases h
  | cons x r ih =>
    simp only [Rows.uptoBulkAll]
    cases List.mem_cons.1 h with
    | inl e => subst e; omega
    | inr e => have := ih e; omega
theorem bulk_one {H : Type} (d : DataW H) : 1 ≤ Rows.uptoBulk d := by
  cases d with
  | lit l => cases l <;> simp [Rows.uptoBulk]
  | nil => simp [Rows.uptoBulk]
  | ptr d => simp [Rows.uptoBulk]
  | slice elems spare => simp [Rows.uptoBulk]
  | agg parts => simp [Rows.uptoBulk]
  | iface t d => simp [Rows.uptoBulk]
  | map entries => simp [Rows.uptoBulk]
  | held h => simp [Rows.uptoBulk]
theorem bulk_len {H : Type} (l : List (DataW H)) : l.length ≤ Rows.uptoBulkAll l := by
  induction l with
  | nil => simp [Rows.uptoBulkAll]
  | cons x r ih => have := bulk_one x; simp only [Rows.uptoBulkAll, List.length_cons]; omega

/-- What the cells hold, as a token. -/
def rdTok (w : World) (g o : Nat) : Tok :=
  ⟨match w.cell? ⟨g, o, none⟩ with | some (.int _ k) => k | _ => 0, match w.cell? ⟨g, o + 1, none⟩ with | some (.string s) => s | _ => ⟨#[]⟩, match w.cell? ⟨g, o + 2, none⟩ with | some (.int _ k) => k | _ => 0, match w.cell? ⟨g, o + 3, none⟩ with | some (.int _ k) => k | _ => 0⟩

theorem cell_add {W : World} {a : Addr} {n : Nat} {v : Value} (h : W.cell? (a.add n) = some v) : W.cell? ⟨a.block, a.off + n, none⟩ = some v ∧ (n = 0 → a.spot = none) := by
  unfold Addr.add at h
  by_cases hn : n = 0
  · rw [if_pos hn] at h
    obtain ⟨ab, ao, asp⟩ := a
    have hs : asp = none := by
      cases asp with
      | none => rfl
      | some x =>
        unfold World.cell? at h
        simp only [Option.isSome_some, if_true] at h
        split at h <;> cases h
    subst hs hn
    exact ⟨h, fun _ => rfl⟩
  · rw [if_neg hn] at h
    exact ⟨h, fun e => absurd e hn⟩

set_option maxRecDepth 100000 in
theorem open_toks {H : Type} {enc : TypeId × Value → H} {W : World} {b : Nat} {v : Value} {d : DataW H} {p : List MemPlace} (hval : Value.okWide Tryz.prog W .any b 22 v) (h : DataW.Trod enc Tryz.prog W 0 (fun _ => true) true 22 v d p) (hb : Rows.uptoBulk d ≤ 1048576) :
    ∃ ts, Toks W v ts := by
  obtain ⟨a0, len0, cap0, rfl⟩ := okWide_slice Tryz.underlying22 hval
  obtain ⟨fuel, hf⟩ := h
  rcases open_slice_fields Tryz.underlying22 under24 hone24 hcells24 hf with ⟨hcs, hx⟩ | ⟨a, len, cap, m, D, Pl, hcs, _, hl, hm, hmm, hx, hi⟩
  · have e : Value.slice a0 len0 cap0 = .slice none 0 0 := by simpa [Value.cells] using hcs
    rw [e]
    exact ⟨[], ⟨none, 0, rfl, fun i h => by simp at h⟩, fun t ht => by simp at ht, by simp⟩
  · have e : Value.slice a0 len0 cap0 = .slice (some a) len cap := by simpa [Value.cells] using hcs
    rw [e]
    simp only [if_true] at hmm
    have hfour : ∀ i, i < len → ∃ t : Tok, Cell4 W a.block (a.off + i * 4) t ∧ t.fine ∧ a.block < W.heap.size ∧ (i = 0 → a.spot = none) := by
      intro i hilt
      obtain ⟨ys, n, hD, _, hyl, hj⟩ := hi i (by omega)
      obtain ⟨v0, y0, hc0, hy0, ht0⟩ := hj 0 _ rfl
      obtain ⟨v1, y1, hc1, hy1, ht1⟩ := hj 1 _ rfl
      obtain ⟨v2, y2, hc2, hy2, ht2⟩ := hj 2 _ rfl
      obtain ⟨v3, y3, hc3, hy3, ht3⟩ := hj 3 _ rfl
      obtain ⟨k, e0, _, _⟩ := DataW.trod_int Tryz.underlying3 ht0
      obtain ⟨tx, e1, ex1, _⟩ := DataW.trod_string Tryz.underlying9 ht1
      obtain ⟨nn, e2, _, hw2⟩ := DataW.trod_int Tryz.underlying2 ht2
      obtain ⟨pp, e3, _, _⟩ := DataW.trod_int Tryz.underlying3 ht3
      obtain rfl : v0 = .int .i64 k := by simpa using e0
      obtain rfl : v1 = .string tx := by simpa using e1
      obtain rfl : v2 = .int .i64 nn := by simpa using e2
      obtain rfl : v3 = .int .i64 pp := by simpa using e3
      have hsz : fs24.size = 4 := rfl
      rw [hsz] at hc0 hc1 hc2 hc3
      have hb1 : Rows.uptoBulk y1.1 ≤ 1048576 := by
        have m1 : y1.1 ∈ ys.map (·.1) := List.mem_map.2 ⟨y1, List.mem_of_getElem? hy1, rfl⟩
        have l1 := part_le m1
        have l2 : Rows.uptoBulk (D i) = Rows.uptoBulkAll (ys.map (·.1)) + 1 := by rw [hD]; simp [Rows.uptoBulk]
        have l3 := part_le (d := D i) (l := (List.range len).map D) (List.mem_map.2 ⟨i, List.mem_range.2 hilt, rfl⟩)
        have l4 : Rows.uptoBulkAll ((List.range len).map D) ≤ Rows.uptoBulk d := by
          have : d = .slice ((List.range len).map D) ((List.range (m - len)).map fun j => D (len + j)) := congrArg Prod.fst hx
          rw [this]
          simp only [Rows.uptoBulk]
          omega
        omega
      have hb2 : tx.size ≤ 1048576 := by
        rw [ex1] at hb1
        simp only [Rows.uptoBulk] at hb1
        rw [data_len] at hb1
        omega
      have ca := cell_add hc0
      refine ⟨⟨k, tx, nn, pp⟩, ⟨ca.1, (cell_add hc1).1, (cell_add hc2).1, (cell_add hc3).1⟩, ⟨hb2, ?_⟩, World.block_lt_of_cell? W ⟨a.block, _, none⟩ ca.1, fun e => ca.2 (by omega)⟩
      exact bounds_i64 hw2
    have hlen : len ≤ 1048576 := by
      have l4 : Rows.uptoBulkAll ((List.range len).map D) ≤ Rows.uptoBulk d := by
        have : d = .slice ((List.range len).map D) ((List.range (m - len)).map fun j => D (len + j)) := congrArg Prod.fst hx
        rw [this]
        simp only [Rows.uptoBulk]
        omega
      have l5 := bulk_len ((List.range len).map D)
      rw [List.length_map, List.length_range] at l5
      omega
    refine ⟨(List.range len).map fun i => if h : i < len then Classical.choose (hfour i h) else ⟨0, ⟨#[]⟩, 0, 0⟩, ⟨some a, cap, by simp, fun i hi => ?_⟩, fun t ht => ?_, by simpa using hlen⟩
    · have hil : i < len := by simpa using hi
      have hsp := Classical.choose_spec (hfour i hil)
      have hs0 := Classical.choose_spec (hfour 0 (by omega))
      obtain ⟨ab, ao, asp⟩ := a
      have hz : asp = none := hs0.2.2.2 rfl
      subst hz
      refine ⟨ab, ao, rfl, hsp.2.2.1, ?_⟩
      have e : ((List.range len).map fun i => if h : i < len then Classical.choose (hfour i h) else ⟨0, ⟨#[]⟩, 0, 0⟩)[i] = Classical.choose (hfour i hil) := by
        rw [List.getElem_map, List.getElem_range, dif_pos hil]
      rw [e]
      exact hsp.1
    · obtain ⟨i, hi, rfl⟩ := List.mem_map.1 ht
      have hil : i < len := List.mem_range.1 hi
      rw [dif_pos hil]
      exact (Classical.choose_spec (hfour i hil)).2.1
end Go.Proofs.YtijgmloodkbljaaGreatDoor
