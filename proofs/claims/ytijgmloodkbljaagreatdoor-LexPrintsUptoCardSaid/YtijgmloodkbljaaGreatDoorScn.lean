import Derived.Test.YtijgmloodkbljaaGreatDoorPr2
import Derived.Lib.QuietBelow
import Derived.WalkMore
import Derived.Deep.QuietTactic
import Derived.BigQuiet
namespace Go.Proofs.YtijgmloodkbljaaGreatDoor
open Go Go.RowKit

/-- The scanner at block c: the text, and where it stands. -/
def ScAt (c : Nat) (s : ByteArray) (k : Nat) (w : World) : Prop := w.heap[c]? = some (.cells #[.string s, .int .i64 (k : Int)] 110)
/-- Whatever lay lies as it lay, but for block c. -/
def GC (c : Nat) (w w' : World) : Prop := w.grownBy w' (some c)
def RetC (v : Value) (c : Nat) (s : ByteArray) (k : Nat) (w : World) (e : Ending) (w' : World) : Prop := e = .returned v ∧ ScAt c s k w' ∧ GC c w w'

theorem GC.refl (c : Nat) (w : World) : GC c w w := ⟨rfl, rfl, rfl, Nat.le_refl _, fun _ _ _ => rfl⟩
theorem GC.trans {c : Nat} {w w1 w2 : World} (h : GC c w w1) (h2 : GC c w1 w2) : GC c w w2 :=
  ⟨h2.os.trans h.os, h2.tape.trans h.tape, h2.output.trans h.output, Nat.le_trans h.size h2.size, fun k hk hr => (h2.block k (Nat.lt_of_lt_of_le hk h.size) hr).trans (h.block k hk hr)⟩
theorem GC.of_below {c : Nat} {w w' : World} (h : Below w.heap.size w w') : GC c w w' := ⟨h.os, h.tape, h.output, h.size, fun k hk _ => h.block k hk⟩
theorem GC.below {c : Nat} {w w' : World} (h : GC c w w') (B : Nat) (hB : B ≤ c) (hw : B ≤ w.heap.size) : Below B w w' :=
  ⟨h.os, h.tape, h.output, h.size, fun k hk => h.block k (by omega) (by simp; omega)⟩

def isBl (c : UInt8) : Bool := c == 32 || c == 10
/-- Where the first byte stands, from k on, that is no blank. -/
def skip (s : ByteArray) (k : Nat) : Nat := if h : k < s.size then (if isBl s[k] = true then skip s (k + 1) else k) else k
termination_by s.size - k
theorem skip_le (s : ByteArray) (k : Nat) (hk : k ≤ s.size) : k ≤ skip s k ∧ skip s k ≤ s.size := by
  induction hn : s.size - k generalizing k with
  | zero => rw [skip, dif_neg (by omega)]; omega
  | succ n ih =>
    rw [skip, dif_pos (by omega)]
    split
    · have := ih (k + 1) (by omega) (by omega); omega
    · omega

theorem GC.drewN {c : Nat} {w w1 : World} (h : GC c w w1) (a : Nat) : GC c w (w1.drewN a) := ⟨h.os, h.tape, h.output, h.size, h.block⟩
theorem ScAt.drewN {c : Nat} {s : ByteArray} {k : Nat} {w : World} (h : ScAt c s k w) (a : Nat) : ScAt c s k (w.drewN a) := h
theorem setCell_block (w : World) (c : Nat) (o : Nat) (v : Value) (cs : Array Value) (t : TypeId) (h : w.heap[c]? = some (.cells cs t)) : (w.setCell ⟨c, o, none⟩ v).heap[c]? = some (.cells (cs.setIfInBounds o v) t) ∧ w.grownBy (w.setCell ⟨c, o, none⟩ v) (some c) := by
  refine ⟨?_, rfl, rfl, rfl, ?_, ?_⟩
  · show (w.heap.modify c _)[c]? = _
    rw [Array.getElem?_modify, if_pos rfl, h]
    rfl
  · show w.heap.size ≤ (w.heap.modify c _).size
    simp
  · intro k _ hr
    show (w.heap.modify c _)[k]? = _
    rw [Array.getElem?_modify, if_neg (by intro e; exact hr (by rw [e]))]
theorem ScAt.set {c : Nat} {s : ByteArray} {k : Nat} {w : World} (h : ScAt c s k w) (j : Nat) : ScAt c s j (w.setCell ⟨c, 1, none⟩ (.int .i64 (j : Int))) ∧ GC c w (w.setCell ⟨c, 1, none⟩ (.int .i64 (j : Int))) :=
  setCell_block w c 1 _ _ _ h
theorem isBl_iff (x : UInt8) : isBl x = true ↔ (((x.toNat : Int) == 32) = true ∨ (((x.toNat : Int) == 32) = false ∧ ((x.toNat : Int) == 10) = true)) := by
  unfold isBl
  have e : ∀ y : UInt8, (x == y) = ((x.toNat : Int) == (y.toNat : Int)) := fun y => by
    by_cases h : x = y
    · subst h; simp
    · have : ¬ x.toNat = y.toNat := fun h2 => h (UInt8.toNat_inj.1 h2)
      have h3 : ((x.toNat : Int) == (y.toNat : Int)) = false := by simp; omega
      rw [h3]; simpa using h
  rw [e 32, e 10]
  show (((x.toNat : Int) == 32) || ((x.toNat : Int) == 10)) = true ↔ _
  cases ((x.toNat : Int) == 32) <;> simp
def posOf (c : Nat) (w : World) : Nat := match w.heap[c]? with | some (.cells cs _ _) => (intOf (cs.getD 1 undef)).toNat | _ => 0
theorem ScAt.pos {c : Nat} {s : ByteArray} {k : Nat} {w : World} (h : ScAt c s k w) : posOf c w = k := by unfold posOf; rw [h]; rfl

theorem posOf_set {c : Nat} {s : ByteArray} {k : Nat} {w : World} (h : ScAt c s k w) : posOf c (w.setCell ⟨c, 1, none⟩ (.int .i64 ((k : Int) + 1))) = k + 1 := (h.set (k + 1)).1.pos

set_option maxHeartbeats 4000000 in
set_option maxRecDepth 100000 in
theorem f83_blanks (c : Nat) (s : ByteArray) (k : Nat) (w : World) (h : ScAt c s k w) (hk : k ≤ s.size) (hs : s.size ≤ 1048576) :
    Calls Tryz.prog 83 #[.pointer (some ⟨c, 0, none⟩)] w (RetC (.bool (decide (skip s k < s.size))) c s (skip s k) w) := by
  generalize hV : decide (skip s k < s.size) = V
  generalize hK : skip s k = K at *
  have HV := Lib.hid hV
  clear hV
  have HK := Lib.hid hK
  clear hK
  go_enter Tryz.func83, Tryz.ntmps83
  go_wp2
  go_step3
  go_wp2
  go_step3
  go_wp2
  go_loopw [] (fun wr => ∃ j : Nat, j ≤ s.size ∧ skip s j = K ∧ ScAt c s j wr ∧ GC c w wr) (fun wr => s.size - posOf c wr)
  case atStart => exact ⟨k, hk, HK.out, h, GC.refl _ _⟩
  case round =>
    obtain ⟨j, hj, hjk, hsc1, hg1⟩ := hrel
    have hpos := hsc1.pos
    have c0 : wr.cell? ⟨c, 0, none⟩ = some (.string s) := Lib.cell_of_heap hsc1 0
    have c1 : wr.cell? ⟨c, 1, none⟩ = some (.int .i64 j) := Lib.cell_of_heap hsc1 1
    by_cases hlt : j < s.size
    · have hlt' : (j : Int) < s.size := by omega
      go_wp2
      go_quiet (fail)
      go_wp2
      generalize hw2 : wr.drewN _ = w2
      have hsc2 : ScAt c s j w2 := by rw [← hw2]; exact hsc1
      have hg2 : GC c w w2 := by rw [← hw2]; exact hg1.drewN _
      clear hsc1 hg1 c0 c1 hw2
      have c0 : w2.cell? ⟨c, 0, none⟩ = some (.string s) := Lib.cell_of_heap hsc2 0
      have c1 : w2.cell? ⟨c, 1, none⟩ = some (.int .i64 j) := Lib.cell_of_heap hsc2 1
      have cf : w2.frozen? ⟨c, 1, none⟩ = false := Lib.frozen_of_heap hsc2 1
      by_cases hb : isBl s[j] = true
      · have hskip : Hid (skip s j = skip s (j + 1)) := by unfold Hid; rw [skip, dif_pos hlt, if_pos hb]
        have hor : ((s[j].toNat : Int) == 32) = true ∨ (((s[j].toNat : Int) == 32) = false ∧ ((s[j].toNat : Int) == 10) = true) := (isBl_iff _).1 hb
        clear hb
        rcases hor with e1 | ⟨e1, e2⟩
        all_goals
          go_quiet (fail)
          go_wp2
          generalize hw3 : w2.drewN _ = w3
          have hsc3 : ScAt c s j w3 := by rw [← hw3]; exact hsc2
          have hg3 : GC c w w3 := by rw [← hw3]; exact hg2.drewN _
          clear hsc2 hg2 c0 c1 hw3
          have c0 : w3.cell? ⟨c, 0, none⟩ = some (.string s) := Lib.cell_of_heap hsc3 0
          have c1 : w3.cell? ⟨c, 1, none⟩ = some (.int .i64 j) := Lib.cell_of_heap hsc3 1
          have cf : w3.frozen? ⟨c, 1, none⟩ = false := Lib.frozen_of_heap hsc3 1
          go_wp2
          go_roundw
          case rel =>
            obtain ⟨h4, h5⟩ := hsc3.set (j + 1)
            exact ⟨j + 1, by omega, by rw [← hjk, hskip.out], h4, hg3.trans h5⟩
          case measure =>
            rw [posOf_set hsc3, hpos]
            omega
      · have hskip : j = K := by rw [← hjk, skip, dif_pos hlt, if_neg hb]
        have e1 : ((s[j].toNat : Int) == 32) = false := by
          rw [isBl_iff] at hb
          cases h1 : ((s[j].toNat : Int) == 32)
          · rfl
          · exact absurd (.inl h1) hb
        have e2 : ((s[j].toNat : Int) == 10) = false := by
          rw [isBl_iff] at hb
          cases h1 : ((s[j].toNat : Int) == 10)
          · rfl
          · exact absurd (.inr ⟨e1, h1⟩) hb
        obtain rfl : true = V := by rw [← HV.out, ← hskip]; exact (decide_eq_true hlt).symm
        clear hb hjk HK HV
        subst hskip
        go_quiet (fail)
        go_wp2
        generalize hw3 : w2.drewN _ = w3
        have hsc3 : ScAt c s j w3 := by rw [← hw3]; exact hsc2
        have hg3 : GC c w w3 := by rw [← hw3]; exact hg2.drewN _
        clear hsc2 hg2 c0 c1 hw3
        have c0 : w3.cell? ⟨c, 0, none⟩ = some (.string s) := Lib.cell_of_heap hsc3 0
        have c1 : w3.cell? ⟨c, 1, none⟩ = some (.int .i64 j) := Lib.cell_of_heap hsc3 1
        have cf : w3.frozen? ⟨c, 1, none⟩ = false := Lib.frozen_of_heap hsc3 1
        go_goals
        go_quiet (fail)
        go_wp2
        generalize hw4 : w3.drewN _ = w4
        have hsc4 : ScAt c s j w4 := by rw [← hw4]; exact hsc3
        have hg4 : GC c w w4 := by rw [← hw4]; exact hg3.drewN _
        clear hsc3 hg3 c0 c1 hw4
        have c0 : w4.cell? ⟨c, 0, none⟩ = some (.string s) := Lib.cell_of_heap hsc4 0
        have c1 : w4.cell? ⟨c, 1, none⟩ = some (.int .i64 j) := Lib.cell_of_heap hsc4 1
        have cf : w4.frozen? ⟨c, 1, none⟩ = false := Lib.frozen_of_heap hsc4 1
        rw [Exit.noGoto_ret]
        go_ret
        exact ⟨rfl, hsc4, hg4⟩
    · have hskip : j = K := by rw [← hjk, skip, dif_neg hlt]
      have hlt' : (s.size : Int) ≤ j := by omega
      obtain rfl : false = V := by rw [← HV.out, ← hskip]; exact (decide_eq_false hlt).symm
      clear hjk HK HV hpos
      subst hskip
      go_wp2
      go_quiet (fail)
      go_wp2
      generalize hw2 : wr.drewN _ = w2
      have hsc2 : ScAt c s j w2 := by rw [← hw2]; exact hsc1
      have hg2 : GC c w w2 := by rw [← hw2]; exact hg1.drewN _
      clear hsc1 hg1 c0 c1 hw2
      have c0 : w2.cell? ⟨c, 0, none⟩ = some (.string s) := Lib.cell_of_heap hsc2 0
      have c1 : w2.cell? ⟨c, 1, none⟩ = some (.int .i64 j) := Lib.cell_of_heap hsc2 1
      go_quiet (fail)
      go_wp2
      generalize hw3 : w2.drewN _ = w3
      have hsc3 : ScAt c s j w3 := by rw [← hw3]; exact hsc2
      have hg3 : GC c w w3 := by rw [← hw3]; exact hg2.drewN _
      clear hsc2 hg2 c0 c1 hw3
      have c0 : w3.cell? ⟨c, 0, none⟩ = some (.string s) := Lib.cell_of_heap hsc3 0
      have c1 : w3.cell? ⟨c, 1, none⟩ = some (.int .i64 j) := Lib.cell_of_heap hsc3 1
      rw [Exit.noGoto_ret]
      go_ret
      exact ⟨rfl, hsc3, hg3⟩
end Go.Proofs.YtijgmloodkbljaaGreatDoor
