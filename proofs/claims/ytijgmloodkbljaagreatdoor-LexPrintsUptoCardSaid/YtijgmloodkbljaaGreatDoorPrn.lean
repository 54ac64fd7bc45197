import Derived.Test.YtijgmloodkbljaaGreatDoorTx2
namespace Go.Proofs.YtijgmloodkbljaaGreatDoor
open Go Go.RowKit

def Cell4 (w : World) (g o : Nat) (t : Tok) : Prop :=
  w.cell? ⟨g, o, none⟩ = some (.int .i64 t.kind) ∧ w.cell? ⟨g, o + 1, none⟩ = some (.string t.text) ∧ w.cell? ⟨g, o + 2, none⟩ = some (.int .i64 t.n) ∧ w.cell? ⟨g, o + 3, none⟩ = some (.int .i64 t.pos)
def Tok.fine (t : Tok) : Prop := t.text.size ≤ 1048576 ∧ I64n t.n
/-- The slice v holds the tokens ts. -/
structure Toks (w : World) (v : Value) (ts : List Tok) : Prop where
  form : ∃ b c, v = .slice b ts.length c ∧ ∀ (i : Nat) (h : i < ts.length), ∃ g off, b = some ⟨g, off, none⟩ ∧ g < w.heap.size ∧ Cell4 w g (off + i * 4) ts[i]
  fine : ∀ t ∈ ts, t.fine
  len : ts.length ≤ 1048576

theorem Cell4.below {B : Nat} {w w' : World} {g o : Nat} {t : Tok} (h : Cell4 w g o t) (hb : Below B w w') (hg : g < B) : Cell4 w' g o t :=
  ⟨(hb.cell (p := ⟨g, o, none⟩) hg).trans h.1, (hb.cell (p := ⟨g, o + 1, none⟩) hg).trans h.2.1, (hb.cell (p := ⟨g, o + 2, none⟩) hg).trans h.2.2.1, (hb.cell (p := ⟨g, o + 3, none⟩) hg).trans h.2.2.2⟩
theorem Toks.below {w w' : World} {v : Value} {ts : List Tok} (h : Toks w v ts) (hb : Below w.heap.size w w') : Toks w' v ts := by
  refine ⟨?_, h.fine, h.len⟩
  obtain ⟨b, c, h1, h2⟩ := h.form
  refine ⟨b, c, h1, fun i hi => ?_⟩
  obtain ⟨g, off, h3, h4, h5⟩ := h2 i hi
  exact ⟨g, off, h3, Nat.lt_of_lt_of_le h4 hb.size, h5.below hb h4⟩

abbrev St := List UInt8 × Int
def sepL (last k : Int) : List UInt8 := if last ≠ 4 ∧ k ≠ 4 then [32] else []
def stepP (s : St) (t : Tok) : St := if t.ok = true then (s.1 ++ sepL s.2 t.kind ++ t.txt.data.toList, t.kind) else s
def stP (ts : List Tok) (k : Nat) : St := (ts.take k).foldl stepP ([], 4)
def printS (ts : List Tok) : ByteArray := ⟨(ts.foldl stepP ([], 4)).1.toArray⟩
theorem stP_succ (ts : List Tok) (k : Nat) (h : k < ts.length) : stP ts (k + 1) = stepP (stP ts k) ts[k] := by
  unfold stP
  rw [List.take_succ_eq_append_getElem h, List.foldl_append]
  rfl
theorem txt_size (t : Tok) (h : t.fine) : t.txt.data.toList.length ≤ 4200000 := by
  unfold Tok.txt
  by_cases h1 : t.ok = true
  · rw [if_pos h1]
    by_cases h2 : t.kind = 2
    · rw [if_pos h2]
      have h3 := decN_len t.n.natAbs 20 (by have := h.2.1; have := h.2.2; omega) (by omega)
      show (Lib.itoa t.n).toArray.toList.length ≤ _
      unfold Lib.itoa
      have e : ∀ m, m = t.n.natAbs → (Lib.decDigits m).length ≤ 20 := fun m hm => by rw [decDigits_decN, List.length_map, hm]; exact h3
      by_cases h0 : t.n < 0
      · rw [if_pos h0]
        have := e _ rfl
        simp; omega
      · rw [if_neg h0]
        have := e t.n.toNat (by omega)
        simp; omega
    · rw [if_neg h2]
      by_cases h4 : t.kind = 3
      · rw [if_pos h4]
        show (quoteL t.text.data.toList).toArray.toList.length ≤ _
        have h5 := flat_length t.text.data.toList
        have h6 := data_len t.text
        have h7 := h.1
        have : (quoteL t.text.data.toList).length = (t.text.data.toList.flatMap qc).length + 2 := by unfold quoteL; simp
        rw [List.toList_toArray, this]
        omega
      · rw [if_neg h4, data_len]
        have h7 := h.1
        omega
  · rw [if_neg h1]; simp
theorem stP_length (ts : List Tok) (hf : ∀ t ∈ ts, t.fine) (k : Nat) (hk : k ≤ ts.length) (C : Nat) (hC : C = 4200001) : (stP ts k).1.length ≤ k * C := by
  induction k with
  | zero => simp [stP]
  | succ k ih =>
    have h1 := ih (by omega)
    rw [stP_succ ts k (by omega), Nat.succ_mul]
    unfold stepP
    by_cases ho : ts[k].ok = true
    · rw [if_pos ho]
      have h2 := txt_size ts[k] (hf _ (List.getElem_mem _))
      have h3 : (sepL (stP ts k).2 ts[k].kind).length ≤ 1 := by unfold sepL; split <;> simp
      show ((stP ts k).1 ++ sepL (stP ts k).2 ts[k].kind ++ ts[k].txt.data.toList).length ≤ _
      rw [List.length_append, List.length_append]
      generalize ts[k].txt.data.toList.length = a at *
      generalize (sepL (stP ts k).2 ts[k].kind).length = b at *
      generalize (stP ts k).1.length = c at *
      omega
    · rw [if_neg ho]; omega
theorem stP_len (ts : List Tok) (hf : ∀ t ∈ ts, t.fine) (hl : ts.length ≤ 1048576) (k : Nat) (hk : k ≤ ts.length) : (stP ts k).1.length ≤ 4500000000000 := by
  have h := stP_length ts hf k hk 4200001 rfl
  have : k * 4200001 ≤ 1048576 * 4200001 := Nat.mul_le_mul_right _ (by omega)
  omega
theorem QI.box {w0 W : World} {b : Nat} {l : List UInt8} (o : Obj) (hbb : w0.heap.size = b) (h : Bl b b l W) (hb : Below b w0 W) : QI w0 b W.heap.size o l (W.alloc o) := by
  subst hbb
  have hbw : Below W.heap.size W (W.alloc o) := (Below.refl _ _).alloc (Nat.le_refl _) _
  obtain ⟨h2, h3⟩ := below_bl hbw h
  refine ⟨h2, heap_alloc_new W o, ?_, ?_, hb.trans (hbw.mono hb.size), Nat.le_refl _⟩
  · have := h.lt; omega
  · rw [h3]
    intro e
    have := rowOf_lt h _ e
    omega
theorem QI.box4 {w0 W : World} {b c : Nat} {l : List UInt8} {v0 v1 v2 v3 : Value} {t : TypeId} {fr : Nat × Nat} (h : QI w0 b c (.cells #[v0, v1, v2, v3] t fr) l W) :
    W.cell? ⟨c, 0, none⟩ = some v0 ∧ W.cell? ⟨c, 1, none⟩ = some v1 ∧ W.cell? ⟨c, 2, none⟩ = some v2 ∧ W.cell? ⟨c, 3, none⟩ = some v3 := by
  exact ⟨Lib.cell_of_heap h.row 0, Lib.cell_of_heap h.row 1, Lib.cell_of_heap h.row 2, Lib.cell_of_heap h.row 3⟩

set_option maxHeartbeats 4000000 in
set_option maxRecDepth 100000 in
theorem f20_Print (v : Value) (ts : List Tok) (w : World) (hT : Toks w v ts) (hL : Laid w) : Calls Tryz.prog 20 #[v] w (Ret (.string (printS ts)) w) := by
  generalize hR : printS ts = R
  have HR := Lib.hid hR
  clear hR
  have hfine := Lib.hid hT.fine
  have htl := hT.len
  have HT := Lib.hid hT
  have HL := Lib.hid hL
  obtain ⟨bb, cc, rfl, hcell⟩ := hT.form
  have hB0 := Bl.fresh w
  have hb0 : Below w.heap.size w (w.alloc (.cells #[.pointer none, .slice none 0 0] 101)) := (Below.refl _ _).alloc (Nat.le_refl _) _
  have HC := Lib.hid hcell
  clear hcell hT hL
  go_enter Tryz.func20, Tryz.ntmps20
  go_wp2
  generalize hb : w.heap.size = b at hB0 hb0
  have HB := Lib.hid hb
  go_loopw [4, 9] (fun u i wr => ∃ k : Nat, k ≤ ts.length ∧ i = .int .i64 k ∧ u = .int .i64 (stP ts k).2 ∧ Bl b b (stP ts k).1 wr ∧ Below b w wr) (fun u i _ => ts.length - (intOf i).toNat)
  case atStart => exact ⟨0, by omega, rfl, rfl, hB0, hb0⟩
  case round =>
    clear hB0 hb0
    obtain ⟨k, hk, rfl, rfl, hBl, hbel⟩ := hrel
    by_cases hlt : k < ts.length
    · obtain ⟨g, off, rfl, hg, hc4⟩ := HC.out k hlt
      obtain ⟨c0, c1, c2, c3⟩ := hc4.below hbel (by omega)
      have hf := hfine.out _ (List.getElem_mem hlt)
      have hll := stP_len ts hfine.out htl k hk
      have hsn := Lib.hid (stP_succ ts k hlt)
      have hts := txt_size _ hf
      generalize ts[k] = t at *
      generalize stP ts k = st at *
      obtain ⟨l, last⟩ := st
      obtain ⟨tk, tt, tn, tp⟩ := t
      have hll' : l.length ≤ 4500000000000 := hll
      clear hll
      have hQ := QI.box (.cells #[.int .i64 tk, .string tt, .int .i64 tn, .int .i64 tp] 24) HB.out hBl hbel
      cases ho : Tok.ok ⟨tk, tt, tn, tp⟩
      · have hst : Hid (stepP (l, last) ⟨tk, tt, tn, tp⟩ = (l, last)) := by unfold Hid stepP; rw [if_neg (by rw [ho]; decide)]
        go_wp2_with (go_at_call 15; refine (f15_Check _ _ _ _ _ hf.1).mono ?_; rw [ho, show checkE false = 150 from rfl]; rintro e w1 ⟨rfl, h1⟩; have hQ1 := hQ.ret h1; clear h1 hQ; obtain ⟨d0, d1, d2, d3⟩ := hQ1.box4)
        go_roundw
        case rel =>
          refine ⟨k + 1, by omega, by go_num, by rw [hsn.out, hst.out], by rw [hsn.out, hst.out]; exact hQ1.bl, by rw [← HB.out]; exact hQ1.below⟩
        case measure => simp [intOf]; omega
      · by_cases hl4 : last = 4
        · have hst : Hid (stepP (l, last) ⟨tk, tt, tn, tp⟩ = (l ++ (Tok.txt ⟨tk, tt, tn, tp⟩).data.toList, tk)) := by
            unfold Hid stepP; rw [if_pos ho]; simp [sepL, hl4]
          have e1 : (last != 4) = false := by simp [hl4]
          clear hl4
          go_wp2_with (go_at_call 15; refine (f15_Check _ _ _ _ _ hf.1).mono ?_; rw [ho, show checkE true = 0 from rfl]; rintro e w1 ⟨rfl, h1⟩; have hQ1 := hQ.ret h1; clear h1 hQ; obtain ⟨d0, d1, d2, d3⟩ := hQ1.box4)
          refine (f17_Text _ _ _ _ _ hf.1 hf.2 (HL.out.below hQ1.below HL.out.size)).mono ?_
          rintro e w3 ⟨rfl, h3⟩
          have hQ3 := hQ1.ret h3
          clear h3 hQ1 d0 d1 d2 d3
          go_wp2_with fail
          refine (f80_q _ hQ3 (by have := hts; simp at this ⊢; omega)).mono ?_
          rintro e w4 ⟨rfl, hQ4⟩
          clear hQ3
          obtain ⟨d0, d1, d2, d3⟩ := hQ4.box4
          go_wp2_with fail
          go_roundw
          case rel =>
            refine ⟨k + 1, by omega, by go_num, by rw [hsn.out, hst.out], by rw [hsn.out, hst.out]; exact hQ4.bl, by rw [← HB.out]; exact hQ4.below⟩
          case measure => simp [intOf]; omega
        · have e1 : (last != 4) = true := by simp [hl4]
          by_cases hk4 : tk = 4
          · have hst : Hid (stepP (l, last) ⟨tk, tt, tn, tp⟩ = (l ++ (Tok.txt ⟨tk, tt, tn, tp⟩).data.toList, tk)) := by
              unfold Hid stepP; rw [if_pos ho]; simp [sepL, hk4]
            have e2 : (tk != 4) = false := by simp [hk4]
            clear hl4 hk4
            go_wp2_with (go_at_call 15; refine (f15_Check _ _ _ _ _ hf.1).mono ?_; rw [ho, show checkE true = 0 from rfl]; rintro e w1 ⟨rfl, h1⟩; have hQ1 := hQ.ret h1; clear h1 hQ; obtain ⟨d0, d1, d2, d3⟩ := hQ1.box4)
            refine (f17_Text _ _ _ _ _ hf.1 hf.2 (HL.out.below hQ1.below HL.out.size)).mono ?_
            rintro e w3 ⟨rfl, h3⟩
            have hQ3 := hQ1.ret h3
            clear h3 hQ1 d0 d1 d2 d3
            go_wp2_with fail
            refine (f80_q _ hQ3 (by have := hts; simp at this ⊢; omega)).mono ?_
            rintro e w4 ⟨rfl, hQ4⟩
            clear hQ3
            obtain ⟨d0, d1, d2, d3⟩ := hQ4.box4
            go_wp2_with fail
            go_roundw
            case rel =>
              refine ⟨k + 1, by omega, by go_num, by rw [hsn.out, hst.out], by rw [hsn.out, hst.out]; exact hQ4.bl, by rw [← HB.out]; exact hQ4.below⟩
            case measure => simp [intOf]; omega
          · have hst : Hid (stepP (l, last) ⟨tk, tt, tn, tp⟩ = (l ++ [32] ++ (Tok.txt ⟨tk, tt, tn, tp⟩).data.toList, tk)) := by
              unfold Hid stepP; rw [if_pos ho]; simp [sepL, hk4, hl4]
            have e2 : (tk != 4) = true := by simp [hk4]
            clear hl4 hk4
            go_wp2_with (go_at_call 15; refine (f15_Check _ _ _ _ _ hf.1).mono ?_; rw [ho, show checkE true = 0 from rfl]; rintro e w1 ⟨rfl, h1⟩; have hQ1 := hQ.ret h1; clear h1 hQ; obtain ⟨d0, d1, d2, d3⟩ := hQ1.box4)
            refine (f79_q 32 32 rfl hQ1 (by omega)).mono ?_
            rintro e w2 ⟨rfl, hQ2⟩
            clear hQ1 d0 d1 d2 d3
            obtain ⟨d0, d1, d2, d3⟩ := hQ2.box4
            go_wp2_with fail
            refine (f17_Text _ _ _ _ _ hf.1 hf.2 (HL.out.below hQ2.below HL.out.size)).mono ?_
            rintro e w3 ⟨rfl, h3⟩
            have hQ3 := hQ2.ret h3
            clear h3 hQ2 d0 d1 d2 d3
            go_wp2_with fail
            refine (f80_q _ hQ3 (by have := hts; simp at this ⊢; omega)).mono ?_
            rintro e w4 ⟨rfl, hQ4⟩
            clear hQ3
            obtain ⟨d0, d1, d2, d3⟩ := hQ4.box4
            go_wp2_with fail
            go_roundw
            case rel =>
              refine ⟨k + 1, by omega, by go_num, by rw [hsn.out, hst.out], by rw [hsn.out, hst.out]; exact hQ4.bl, by rw [← HB.out]; exact hQ4.below⟩
            case measure => simp [intOf]; omega
    · obtain rfl : k = ts.length := by omega
      have hend : stP ts ts.length = ts.foldl stepP ([], 4) := by unfold stP; rw [List.take_length]
      rw [hend] at hBl
      have hfin : Done (.string ⟨(ts.foldl stepP ([], 4)).1.toArray⟩) w = Done (.string R) w := by rw [← HR.out]; rfl
      go_wp2_with fail
      refine (Tryz.Builder_String_any b b _ wr hBl (Nat.le_of_lt hBl.lt)).mono ?_
      rintro e w1 ⟨rfl, h1⟩
      have hb2 : Below w.heap.size w w1 := by rw [HB.out]; exact hbel.trans h1
      have hRR : (⟨(ts.foldl stepP ([], 4)).1.toArray⟩ : ByteArray) = R := HR.out
      rw [hRR]
      clear hRR hfin HR
      go_wp2
      go_ret
      exact ⟨rfl, hb2⟩
end Go.Proofs.YtijgmloodkbljaaGreatDoor
