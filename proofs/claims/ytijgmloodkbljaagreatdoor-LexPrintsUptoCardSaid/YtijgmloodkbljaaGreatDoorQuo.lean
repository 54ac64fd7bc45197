import Derived.Test.YtijgmloodkbljaaGreatDoorBl2
import Derived.Test.YtijgmloodkbljaaGreatDoorNum
import Derived.Lib.ConvBytes
namespace Go.Proofs.YtijgmloodkbljaaGreatDoor
open Go Go.RowKit

/-- In the middle of a text: a builder at block b, a row of bytes at block c; below the call's start nothing has turned. -/
structure QI (w0 : World) (b c : Nat) (o : Obj) (l : List UInt8) (W : World) : Prop where
  bl : Bl b b l W
  row : W.heap[c]? = some o
  ne : c ≠ b
  apart : rowOf W b ≠ some c
  below : Below w0.heap.size w0 W
  ge : w0.heap.size ≤ b

theorem below_bl {B b : Nat} {l : List UInt8} {W W' : World} (h : Below W.heap.size W W') (hb : Bl B b l W) : Bl B b l W' ∧ rowOf W' b = rowOf W b := by
  have hlt := hb.lt
  have e : W'.heap[b]? = W.heap[b]? := h.block b hlt
  refine ⟨?_, by unfold rowOf; rw [e]⟩
  have hg : W.grownBy W' none := ⟨h.os, h.tape, h.output, h.size, fun k hk _ => h.block k hk⟩
  rcases hb with hb | hb
  · obtain ⟨hB, v, hbk, hown, hne⟩ := hb
    exact .inl ⟨hB, v, e.trans hbk, hown.kept hg (by cases v.ownBlock <;> simp), hne⟩
  · obtain ⟨hB, v, hbk, hown, hne⟩ := hb
    exact .inr ⟨hB, v, e.trans hbk, hown.kept hg (by cases v.ownBlock <;> simp), hne⟩

theorem QI.ret {w0 : World} {b c : Nat} {o : Obj} {l : List UInt8} {W W' : World} (h : QI w0 b c o l W) (hb : Below W.heap.size W W') : QI w0 b c o l W' := by
  obtain ⟨h1, h2⟩ := below_bl hb h.bl
  have hlt : c < W.heap.size := (Array.getElem?_eq_some_iff.1 h.row).1
  exact ⟨h1, (hb.block c hlt).trans h.row, h.ne, by rw [h2]; exact h.apart, h.below.trans (hb.mono h.below.size), h.ge⟩
theorem QI.write {w0 : World} {b c : Nat} {o : Obj} {l l' : List UInt8} {W W' : World} (h : QI w0 b c o l W) (hb : Bl b b l' W') (hk : KeepB b W W') : QI w0 b c o l' W' := by
  have hlt : c < W.heap.size := (Array.getElem?_eq_some_iff.1 h.row).1
  obtain ⟨e, r⟩ := hk.block c hlt h.ne h.apart
  exact ⟨hb, e.trans h.row, h.ne, r, h.below.trans ((hk.below h.bl).mono h.ge), h.ge⟩

/-- The call returns v, and the text is l. -/
def WQ (v : Value) (w0 : World) (b c : Nat) (o : Obj) (l : List UInt8) (e : Ending) (W' : World) : Prop := e = .returned v ∧ QI w0 b c o l W'

theorem f79_q {w0 : World} {b c : Nat} {o : Obj} {l : List UInt8} {W : World} (x : UInt8) (n : Int) (hn : n = x.toNat) (h : QI w0 b c o l W) (hl : l.length ≤ 100000000000000) :
    Calls Tryz.prog 79 #[.pointer (some ⟨b, 0, none⟩), .int .u8 n] W (WQ .nilIface w0 b c o (l ++ [x]) ) := by
  subst hn
  exact (f79_b b b l x W h.bl (by omega)).mono fun e W' ⟨he, h1, h2⟩ => ⟨he, h.write h1 h2⟩
theorem f80_q {w0 : World} {b c : Nat} {o : Obj} {l : List UInt8} {W : World} (s : ByteArray) (h : QI w0 b c o l W) (hl : l.length + s.size ≤ 100000000000000) :
    Calls Tryz.prog 80 #[.pointer (some ⟨b, 0, none⟩), .string s] W (WQ (.tuple #[.int .i64 s.size, .nilIface]) w0 b c o (l ++ s.data.toList)) :=
  (f80_b b b l s W h.bl (by omega)).mono fun e W' ⟨he, h1, h2⟩ => ⟨he, h.write h1 h2⟩
theorem f189_q {w0 : World} {b c : Nat} {o : Obj} {l : List UInt8} {W : World} (m : Int) (n : Nat) (hm : m = n) (hn : n < 16) (h : QI w0 b c o l W) (hd : w0.cell? ⟨7, 15, none⟩ = some (.int .u8 4)) :
    Calls Tryz.prog 189 #[.int .i64 m, .int .i64 16] W (WQ (.string ⟨#[hexD n]⟩) w0 b c o l) := by
  subst hm
  have h7 : 7 < w0.heap.size := World.block_lt_of_cell? w0 _ hd
  exact (f189_16 n hn W ((h.below.cell (p := ⟨7, 15, none⟩) h7).trans hd) (Nat.lt_of_lt_of_le h7 h.below.size)).mono fun e W' ⟨he, h1⟩ => ⟨he, h.ret h1⟩

/-- The call returns v; below w0's end nothing has turned. -/
def Done (v : Value) (w0 : World) (e : Ending) (w' : World) : Prop := e = .returned v ∧ Below w0.heap.size w0 w'
theorem f81_q {w0 : World} {b c : Nat} {o : Obj} {l : List UInt8} {W : World} (h : QI w0 b c o l W) :
    Calls Tryz.prog 81 #[.pointer (some ⟨b, 0, none⟩)] W (Done (.string ⟨l.toArray⟩) w0) :=
  (Tryz.Builder_String_any b b l W h.bl (Nat.le_of_lt h.bl.lt)).mono fun _ _ ⟨he, hb⟩ => ⟨he, h.below.trans (hb.mono h.ge)⟩
theorem hexD_arr (n : Nat) : ((⟨#[hexD n]⟩ : ByteArray)).data.toList = [hexD n] := rfl
theorem qc_length (c : UInt8) : (qc c).length ≤ 4 := by unfold qc; split <;> (try split) <;> simp
theorem flat_length (l : List UInt8) : (l.flatMap qc).length ≤ 4 * l.length := by
  induction l with
  | nil => simp
  | cons c l ih => simp only [List.flatMap_cons, List.length_append, List.length_cons]; have := qc_length c; omega
theorem flat_snoc (s : ByteArray) (k : Nat) (h : k < s.size) : (s.data.toList.take (k + 1)).flatMap qc = (s.data.toList.take k).flatMap qc ++ qc s[k] := by
  rw [List.take_succ_eq_append_getElem (by simpa using h)]
  simp
  rfl
theorem getD_at (s : ByteArray) (k : Nat) (h : k < s.size) : s.data.toList.getD k 0 = s[k] := by
  rw [List.getD_eq_getElem?_getD, List.getElem?_eq_getElem (by simpa using h)]
  rfl

theorem rowOf_lt {B b : Nat} {l : List UInt8} {w : World} (h : Bl B b l w) (k : Nat) (hk : rowOf w b = some k) : k < w.heap.size := by
  obtain ⟨p, v, hB, hbk, ho, _⟩ := h.open_
  rw [rowOf_at hbk] at hk
  rcases ho.2 with ⟨rfl, _⟩ | ⟨g, cap, cur, rfl, hg, hh, _⟩
  · simp [Value.ownBlock] at hk
  · have : g = k := by simpa [Value.ownBlock] using hk
    subst this
    exact (Array.getElem?_eq_some_iff.1 hh).1

/-- The loop begins: the text's bytes lie in a row of their own. -/
theorem QI.start (w w1 : World) (s : ByteArray) (l0 : List UInt8) (h1 : Bl w.heap.size w.heap.size l0 w1) (hb : Below w.heap.size w w1) :
    QI w w.heap.size w1.heap.size (.cells (Lib.bytesCells w1 5 s) 5 ((Lib.bytesCells w1 5 s).size, (Lib.bytesCells w1 5 s).size + 1)) l0 (Lib.bytesWorld w1 5 s) := by
  have hbw : Below w1.heap.size w1 (Lib.bytesWorld w1 5 s) := ⟨rfl, rfl, rfl, by rw [Lib.bytesWorld_size]; omega, fun k hk => Lib.bytesWorld_at_old w1 5 s k hk⟩
  obtain ⟨h2, h3⟩ := below_bl hbw h1
  refine ⟨h2, Lib.bytesWorld_at_new w1 5 s, ?_, ?_, hb.trans (hbw.mono hb.size), Nat.le_refl _⟩
  · have := h1.lt; omega
  · rw [h3]
    intro e
    have := rowOf_lt h1 _ e
    omega
theorem QI.cell {w0 w1 W : World} {b : Nat} {s : ByteArray} {l : List UInt8} (h : QI w0 b w1.heap.size (.cells (Lib.bytesCells w1 5 s) 5 ((Lib.bytesCells w1 5 s).size, (Lib.bytesCells w1 5 s).size + 1)) l W) (k : Nat) (hk : k < s.size) :
    W.cell? ⟨w1.heap.size, k, none⟩ = some (.int .u8 s[k].toNat) := by
  have e : W.heap[w1.heap.size]? = (Lib.bytesWorld w1 5 s).heap[w1.heap.size]? := h.row.trans (Lib.bytesWorld_at_new w1 5 s).symm
  rw [World.cell?_of_block (a := ⟨w1.heap.size, k, none⟩) e, Lib.bytesWorld_cell w1 5 s k hk, getD_at s k hk]

set_option maxHeartbeats 4000000 in
set_option maxRecDepth 100000 in
theorem f225_quote (s : ByteArray) (w : World) (hs : s.size ≤ 1048576) (hd : w.cell? ⟨7, 15, none⟩ = some (.int .u8 4)) :
    Calls Tryz.prog 225 #[.string s] w (Ret (.string ⟨(quoteL s.data.toList).toArray⟩) w) := by
  generalize hR : quoteL s.data.toList = R
  have HR := Lib.hid hR
  clear hR
  have HD := Lib.hid hd
  clear hd
  have hcv := fun W => Lib.run_convert_string_bytes (P := Tryz.prog) W 9 65 5 s Tryz.underlying9 Tryz.underlying65 Tryz.underlying5
  go_enter Tryz.func225, Tryz.ntmps225
  go_wp2_with (go_at_call 79; refine (f79_b w.heap.size w.heap.size [] 39 _ (Bl.fresh w) (by simp)).mono ?_)
  rintro e w1 ⟨rfl, h1, hk1⟩
  have hQ0 := QI.start w w1 s [39] h1 (((Below.refl _ w).alloc (Nat.le_refl _) _).trans (hk1.below (Bl.fresh w)))
  go_wp2
  clear hcv
  generalize hb : w.heap.size = b at *
  generalize hc : w1.heap.size = c at *
  generalize ho : Obj.cells (Lib.bytesCells w1 5 s) 5 ((Lib.bytesCells w1 5 s).size, (Lib.bytesCells w1 5 s).size + 1) = o at *
  have HB := Lib.hid hb
  have HC := Lib.hid hc
  have HO := Lib.hid ho
  clear hb hc ho h1 hk1
  generalize Lib.bytesWorld w1 5 s = W0 at *
  generalize grownCap w1 s.size 0 5 = cap at *
  go_loopw [5, 10] (fun u i wr => ∃ k : Nat, k ≤ s.size ∧ i = .int .i64 k ∧ QI w b c o (39 :: (s.data.toList.take k).flatMap qc) wr) (fun u i _ => s.size - (intOf i).toNat)
  case atStart => exact ⟨0, by omega, rfl, hQ0⟩
  case round =>
    clear hQ0
    obtain ⟨k, hk, rfl, hQ⟩ := hrel
    have hfl := flat_length (s.data.toList.take k)
    have htl : (s.data.toList.take k).length ≤ 1048576 := by rw [List.length_take, data_len]; omega
    have hll : (39 :: (s.data.toList.take k).flatMap qc).length ≤ 5000000 := by rw [List.length_cons]; omega
    clear hfl htl
    by_cases hlt : k < s.size
    · have hcell : wr.cell? ⟨c, k, none⟩ = some (.int .u8 s[k].toNat) := by
        have h := hQ
        rw [← HC.out, ← HO.out] at h
        rw [← HC.out]
        exact h.cell k hlt
      have hsn := Lib.hid (flat_snoc s k hlt)
      generalize hx : s[k] = x at *
      have hx8 := x.toNat_lt
      generalize hL : 39 :: (s.data.toList.take k).flatMap qc = L at *
      have HL := Lib.hid hL
      clear hx hL
      by_cases hq : x.toNat < 32 ∨ 126 < x.toNat
      · have hqc : Hid (qc x = [92, 120, hexD (x.toNat / 16), hexD (x.toNat % 16)]) := by unfold Hid qc; rw [if_pos hq]
        by_cases h32 : (x.toNat : Int) < 32
        · clear hq
          go_wp2_with (go_at_call 80; refine (f80_q ⟨#[92, 120]⟩ hQ (by show L.length + 2 ≤ _; omega)).mono ?_)
          rintro e W1 ⟨rfl, hQ1⟩
          go_wp2_with fail
          refine (f189_q _ (x.toNat / 16) (by omega) (by omega) hQ1 HD.out).mono ?_
          rintro e W2 ⟨rfl, hQ2⟩
          go_wp2_with fail
          refine (f80_q _ hQ2 (by simp [ByteArray.size]; omega)).mono ?_
          rintro e W3 ⟨rfl, hQ3⟩
          go_wp2_with fail
          refine (f189_q _ (x.toNat % 16) (by omega) (by omega) hQ3 HD.out).mono ?_
          rintro e W4 ⟨rfl, hQ4⟩
          go_wp2_with fail
          refine (f80_q _ hQ4 (by simp [ByteArray.size]; omega)).mono ?_
          rintro e W5 ⟨rfl, hQ5⟩
          go_wp2_with fail
          go_roundw
          case rel =>
            refine ⟨k + 1, by omega, by go_num, ?_⟩
            rw [hsn.out, hqc.out, ← List.cons_append, HL.out]
            simpa using hQ5
          case measure => simp [intOf]; omega
        · have h126 : 126 < (x.toNat : Int) := by omega
          have h32' : 32 ≤ (x.toNat : Int) := by omega
          clear hq h32
          go_wp2_with (go_at_call 80; refine (f80_q ⟨#[92, 120]⟩ hQ (by show L.length + 2 ≤ _; omega)).mono ?_)
          rintro e W1 ⟨rfl, hQ1⟩
          go_wp2_with fail
          refine (f189_q _ (x.toNat / 16) (by omega) (by omega) hQ1 HD.out).mono ?_
          rintro e W2 ⟨rfl, hQ2⟩
          go_wp2_with fail
          refine (f80_q _ hQ2 (by simp [ByteArray.size]; omega)).mono ?_
          rintro e W3 ⟨rfl, hQ3⟩
          go_wp2_with fail
          refine (f189_q _ (x.toNat % 16) (by omega) (by omega) hQ3 HD.out).mono ?_
          rintro e W4 ⟨rfl, hQ4⟩
          go_wp2_with fail
          refine (f80_q _ hQ4 (by simp [ByteArray.size]; omega)).mono ?_
          rintro e W5 ⟨rfl, hQ5⟩
          go_wp2_with fail
          go_roundw
          case rel =>
            refine ⟨k + 1, by omega, by go_num, ?_⟩
            rw [hsn.out, hqc.out, ← List.cons_append, HL.out]
            simpa using hQ5
          case measure => simp [intOf]; omega
      · have h32 : 32 ≤ (x.toNat : Int) := by omega
        have h126 : (x.toNat : Int) ≤ 126 := by omega
        by_cases h39 : x = 39 ∨ x = 92
        · have hqc : Hid (qc x = [92, x]) := by unfold Hid qc; rw [if_neg hq, if_pos h39]
          clear hq
          have hor : ((x.toNat : Int) == 39) = true ∨ (((x.toNat : Int) == 39) = false ∧ ((x.toNat : Int) == 92) = true) := by
            rcases h39 with rfl | rfl
            · exact .inl rfl
            · exact .inr ⟨rfl, rfl⟩
          clear h39
          rcases hor with e1 | ⟨e1, e2⟩
          all_goals
            go_wp2_with fail
            refine (f79_q 92 _ rfl hQ (by omega)).mono ?_
            rintro e W1 ⟨rfl, hQ1⟩
            go_wp2_with fail
            refine (f79_q x _ rfl hQ1 (by simp; omega)).mono ?_
            rintro e W2 ⟨rfl, hQ2⟩
            go_wp2_with fail
            go_roundw
            case rel =>
              refine ⟨k + 1, by omega, by go_num, ?_⟩
              rw [hsn.out, hqc.out, ← List.cons_append, HL.out]
              simpa using hQ2
            case measure => simp [intOf]; omega
        · have hqc : Hid (qc x = [x]) := by unfold Hid qc; rw [if_neg hq, if_neg h39]
          have e1 : ((x.toNat : Int) == 39) = false := by
            simp only [beq_eq_false_iff_ne, ne_eq]; intro h; exact h39 (.inl (UInt8.toNat_inj.1 (by simp; omega)))
          have e2 : ((x.toNat : Int) == 92) = false := by
            simp only [beq_eq_false_iff_ne, ne_eq]; intro h; exact h39 (.inr (UInt8.toNat_inj.1 (by simp; omega)))
          clear hq h39
          go_wp2_with fail
          refine (f79_q x _ rfl hQ (by omega)).mono ?_
          rintro e W1 ⟨rfl, hQ1⟩
          go_wp2_with fail
          go_roundw
          case rel =>
            refine ⟨k + 1, by omega, by go_num, ?_⟩
            rw [hsn.out, hqc.out, ← List.cons_append, HL.out]
            exact hQ1
          case measure => simp [intOf]; omega
    · have hk2 : k = s.size := by omega
      have hL : Hid ((39 :: (s.data.toList.take k).flatMap qc) ++ [39] = R) := by
        unfold Hid
        rw [← HR.out, hk2, List.take_of_length_le (by simp)]
        rfl
      clear hk2
      go_wp2_with fail
      refine (f79_q 39 _ rfl hQ (by omega)).mono ?_
      rintro e W1 ⟨rfl, hQ1⟩
      rw [hL.out] at hQ1
      go_wp2_with (go_at_call 81; refine (f81_q hQ1).mono ?_)
      rintro e W2 ⟨rfl, hb2⟩
      go_wp2
      go_ret
      exact ⟨rfl, hb2⟩
end Go.Proofs.YtijgmloodkbljaaGreatDoor
