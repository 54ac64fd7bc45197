import Derived.Test.YtijgmloodkbljaaGreatDoorBeg
import Derived.Deep.RegionHeld3
namespace Go.Proofs.YtijgmloodkbljaaGreatDoor
open Go Go.RowKit

theorem laidS {X w : World} {B : Nat} {v0 v1 v2 v3 : Value} (h : w.cell? ⟨B, 0, none⟩ = some v0 ∧ w.cell? ⟨B, 1, none⟩ = some v1 ∧ w.cell? ⟨B, 2, none⟩ = some v2 ∧ w.cell? ⟨B, 3, none⟩ = some v3 ∧ Laid w ∧ Below X.heap.size X w) : Laid w := h.2.2.2.2.1
theorem keepS {X w w' : World} {B : Nat} {v0 v1 v2 v3 : Value} (h : w.cell? ⟨B, 0, none⟩ = some v0 ∧ w.cell? ⟨B, 1, none⟩ = some v1 ∧ w.cell? ⟨B, 2, none⟩ = some v2 ∧ w.cell? ⟨B, 3, none⟩ = some v3 ∧ Laid w ∧ Below X.heap.size X w) (hb : Below w.heap.size w w') :
    w'.cell? ⟨B, 0, none⟩ = some v0 ∧ w'.cell? ⟨B, 1, none⟩ = some v1 ∧ w'.cell? ⟨B, 2, none⟩ = some v2 ∧ w'.cell? ⟨B, 3, none⟩ = some v3 ∧ Laid w' ∧ Below X.heap.size X w' := by
  obtain ⟨h0, h1, h2, h3, h4, h5⟩ := h
  have hB : B < w.heap.size := World.block_lt_of_cell? w _ h0
  exact ⟨(hb.cell (p := ⟨B, 0, none⟩) hB).trans h0, (hb.cell (p := ⟨B, 1, none⟩) hB).trans h1, (hb.cell (p := ⟨B, 2, none⟩) hB).trans h2, (hb.cell (p := ⟨B, 3, none⟩) hB).trans h3, h4.ret hb, h5.trans (hb.mono h5.size)⟩

set_option maxHeartbeats 8000000 in
set_option maxRecDepth 100000 in
theorem f3_LexPrints (v : Value) (ts : List Tok) (w : World) (hT : Toks w v ts) (hL : Laid w) : Calls Tryz.prog 3 #[v] w (Ret (.bool true) w) := by
  have hfine := Lib.hid hT.fine
  have htl := hT.len
  have HT := Lib.hid hT
  obtain ⟨bb, cc, rfl, hcell⟩ := hT.form
  have HC := Lib.hid hcell
  have HL := Lib.hid hL
  clear hcell hT hL
  go_enter Tryz.func3, Tryz.ntmps3
  go_wp2
  go_loopw [7] (fun i wr => ∃ k : Nat, k ≤ ts.length ∧ i = .int .i64 k ∧ Below w.heap.size w wr) (fun i _ => ts.length - (intOf i).toNat)
  case atStart => exact ⟨0, by omega, rfl, Below.refl _ _⟩
  case round =>
    obtain ⟨k, hk, rfl, hbel⟩ := hrel
    by_cases hlt : k < ts.length
    · obtain ⟨g, off, rfl, hg, hc4⟩ := HC.out k hlt
      obtain ⟨c0, c1, c2, c3⟩ := hc4.below hbel hg
      have hf := hfine.out _ (List.getElem_mem hlt)
      generalize ts[k] = t at *
      obtain ⟨tk, tt, tn, tp⟩ := t
      go_wp2
      have hLx : Laid (wr.alloc (.cells #[.int .i64 tk, .string tt, .int .i64 tn, .int .i64 tp] 24)) := (HL.out.ret hbel).alloc _
      obtain ⟨d0, d1, d2, d3⟩ := box4 (Below.refl (wr.alloc (.cells #[.int .i64 tk, .string tt, .int .i64 tn, .int .i64 tp] 24)).heap.size (wr.alloc (.cells #[.int .i64 tk, .string tt, .int .i64 tn, .int .i64 tp] 24)))
      have hbw : Below w.heap.size w (wr.alloc (.cells #[.int .i64 tk, .string tt, .int .i64 tn, .int .i64 tp] 24)) := hbel.alloc hbel.size _
      generalize hX : wr.alloc (.cells #[.int .i64 tk, .string tt, .int .i64 tn, .int .i64 tp] 24) = X at *
      generalize wr.heap.size = B at d0 d1 d2 d3 ⊢
      have hS0 : X.drew.cell? ⟨B, 0, none⟩ = some (.int .i64 tk) ∧ X.drew.cell? ⟨B, 1, none⟩ = some (.string tt) ∧ X.drew.cell? ⟨B, 2, none⟩ = some (.int .i64 tn) ∧ X.drew.cell? ⟨B, 3, none⟩ = some (.int .i64 tp) ∧ Laid X.drew ∧ Below X.heap.size X X.drew :=
        ⟨d0, d1, d2, d3, hLx.below (Below.refl X.heap.size X).drew hLx.size, (Below.refl X.heap.size X).drew⟩
      go_region_held3 (fun w' => w'.cell? ⟨B, 0, none⟩ = some (.int .i64 tk) ∧ w'.cell? ⟨B, 1, none⟩ = some (.string tt) ∧ w'.cell? ⟨B, 2, none⟩ = some (.int .i64 tn) ∧ w'.cell? ⟨B, 3, none⟩ = some (.int .i64 tp) ∧ Laid w' ∧ Below X.heap.size X w') (assumption)
        (first
          | (go_at_call 15; refine (f15_Check _ _ _ _ _ hf.1).mono ?_; rintro e w' ⟨rfl, hb⟩; have hS' := keepS (by assumption) hb)
          | (go_at_call 16; refine (f16_Check _ _ _ _ _ hf.1).mono ?_; rintro e w' ⟨rfl, hb⟩; have hS' := keepS (by assumption) hb)
          | (go_at_call 17; refine (f17_Text _ _ _ _ _ hf.1 hf.2 ?_).mono ?_; (exact laidS (X := X) (B := B) (by assumption)); rintro e w' ⟨rfl, hb⟩; have hS' := keepS (by assumption) hb)
          | (go_at_call 18; refine (f18_Text _ _ _ _ _ hf.1 hf.2).mono ?_; rintro e w' ⟨rfl, hb⟩; have hS' := keepS (by assumption) hb))
      have hfin : Below w.heap.size w w' := hbw.trans (hS'.2.2.2.2.2.mono hbw.size)
      clear HC hfine HT HL c0 c1 c2 c3 d0 d1 d2 d3 hS0
      go_wp2
      go_roundw
      case rel => exact ⟨k + 1, by omega, by go_num, hfin⟩
      case measure => simp [intOf]; omega
    · obtain rfl : k = ts.length := by omega
      have hLr : Laid wr := HL.out.ret hbel
      have hTr := HT.out.below hbel
      have HT2 := Lib.hid hTr
      have HL2 := Lib.hid hLr
      clear hTr hLr HC hfine
      go_wp2_with fail
      refine (f19_begun wr HL2.out).mono ?_
      rintro e w1 ⟨rfl, h1⟩
      go_wp2_with fail
      refine (f20_Print _ ts w1 (HT2.out.below h1) (HL2.out.ret h1)).mono ?_
      rintro e w2 ⟨rfl, h2⟩
      go_wp2_with fail
      refine (f21_Print _ ts w2 ((HT2.out.below h1).below h2)).mono ?_
      rintro e w3 ⟨rfl, h3⟩
      have hfin : Below w.heap.size w w3 := hbel.trans ((h1.trans ((h2.mono h1.size).trans (h3.mono (Nat.le_trans h1.size h2.size)))).mono hbel.size)
      go_wp2
      go_ret
      exact ⟨rfl, hfin⟩
end Go.Proofs.YtijgmloodkbljaaGreatDoor
