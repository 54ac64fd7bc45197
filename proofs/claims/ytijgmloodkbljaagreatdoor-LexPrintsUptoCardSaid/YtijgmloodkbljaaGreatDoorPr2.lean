import Derived.Test.YtijgmloodkbljaaGreatDoorPrn
namespace Go.Proofs.YtijgmloodkbljaaGreatDoor
open Go Go.RowKit

theorem str_app (l : List UInt8) (s : ByteArray) : (⟨l.toArray⟩ : ByteArray) ++ s = ⟨(l ++ s.data.toList).toArray⟩ := by
  have : ((⟨l.toArray⟩ : ByteArray) ++ s).data = (l ++ s.data.toList).toArray := by
    rw [ByteArray.data_append]; simp
  exact congrArg ByteArray.mk this
theorem size_arr (l : List UInt8) : (⟨l.toArray⟩ : ByteArray).size = l.length := by
  show l.toArray.size = _
  simp
set_option maxHeartbeats 4000000 in
set_option maxRecDepth 100000 in
theorem f21_Print (v : Value) (ts : List Tok) (w : World) (hT : Toks w v ts) : Calls Tryz.prog 21 #[v] w (Ret (.string (printS ts)) w) := by
  generalize hR : printS ts = R
  have HR := Lib.hid hR
  clear hR
  have hfine := Lib.hid hT.fine
  have htl := hT.len
  obtain ⟨bb, cc, rfl, hcell⟩ := hT.form
  have HC := Lib.hid hcell
  clear hcell hT
  go_enter Tryz.func21, Tryz.ntmps21
  go_wp2
  go_loopw [3, 4, 5] (fun s u i wr => ∃ k : Nat, k ≤ ts.length ∧ i = .int .i64 k ∧ u = .int .i64 (stP ts k).2 ∧ s = .string ⟨(stP ts k).1.toArray⟩ ∧ Below w.heap.size w wr) (fun s u i _ => ts.length - (intOf i).toNat)
  case atStart => exact ⟨0, by omega, rfl, rfl, rfl, Below.refl _ _⟩
  case round =>
    obtain ⟨k, hk, rfl, rfl, rfl, hbel⟩ := hrel
    by_cases hlt : k < ts.length
    · obtain ⟨g, off, rfl, hg, hc4⟩ := HC.out k hlt
      have hc4r := hc4.below hbel hg
      obtain ⟨c0, c1, c2, c3⟩ := hc4r
      have hf := hfine.out _ (List.getElem_mem hlt)
      have hll := stP_len ts hfine.out htl k hk
      have hsn := Lib.hid (stP_succ ts k hlt)
      have hts := txt_size _ hf
      generalize ts[k] = t at *
      generalize stP ts k = st at *
      obtain ⟨l, last⟩ := st
      obtain ⟨tk, tt, tn, tp⟩ := t
      have hll' : l.length ≤ 4500000000000 := hll
      clear hll
      cases ho : Tok.ok ⟨tk, tt, tn, tp⟩
      · have hst : Hid (stepP (l, last) ⟨tk, tt, tn, tp⟩ = (l, last)) := by unfold Hid stepP; rw [if_neg (by rw [ho]; decide)]
        go_wp2_with (go_at_call 16; refine (f16_Check _ _ _ _ _ hf.1).mono ?_; rw [ho, show checkE false = 150 from rfl]; rintro e w1 ⟨rfl, h1⟩; have hb1 := hbel.trans (h1.mono hbel.size); obtain ⟨d0, d1, d2, d3⟩ := hc4.below hb1 hg; clear h1 hbel c0 c1 c2 c3)
        go_roundw
        case rel =>
          exact ⟨k + 1, by omega, by go_num, by rw [hsn.out, hst.out], by rw [hsn.out, hst.out], hb1⟩
        case measure => simp [intOf]; omega
      · have htz : (Tok.txt ⟨tk, tt, tn, tp⟩).size ≤ 4200000 := by rw [← data_len]; exact hts
        by_cases hl4 : last = 4
        · have hst : Hid (stepP (l, last) ⟨tk, tt, tn, tp⟩ = (l ++ (Tok.txt ⟨tk, tt, tn, tp⟩).data.toList, tk)) := by
            unfold Hid stepP; rw [if_pos ho]; simp [sepL, hl4]
          have hap : Hid ((⟨l.toArray⟩ : ByteArray) ++ Tok.txt ⟨tk, tt, tn, tp⟩ = ⟨(l ++ (Tok.txt ⟨tk, tt, tn, tp⟩).data.toList).toArray⟩) := str_app _ _
          have hz : (⟨l.toArray⟩ : ByteArray).size ≤ 4500000000000 := by rw [size_arr]; exact hll'
          have e1 : (last != 4) = false := by simp [hl4]
          clear hl4
          go_wp2_with (go_at_call 16; refine (f16_Check _ _ _ _ _ hf.1).mono ?_; rw [ho, show checkE true = 0 from rfl]; rintro e w1 ⟨rfl, h1⟩; have hb1 := hbel.trans (h1.mono hbel.size); obtain ⟨d0, d1, d2, d3⟩ := hc4.below hb1 hg; clear h1 hbel c0 c1 c2 c3)
          refine (f18_Text _ _ _ _ _ hf.1 hf.2).mono ?_
          rintro e w3 ⟨rfl, h3⟩
          have hb3 := hb1.trans (h3.mono hb1.size)
          clear h3 hb1 d0 d1 d2 d3
          obtain ⟨d0, d1, d2, d3⟩ := hc4.below hb3 hg
          go_wp2
          go_roundw
          case rel =>
            exact ⟨k + 1, by omega, by go_num, by rw [hsn.out, hst.out], by rw [hsn.out, hst.out]; exact congrArg Value.string hap.out, hb3⟩
          case measure => simp [intOf]; omega
        · have e1 : (last != 4) = true := by simp [hl4]
          by_cases hk4 : tk = 4
          · have hst : Hid (stepP (l, last) ⟨tk, tt, tn, tp⟩ = (l ++ (Tok.txt ⟨tk, tt, tn, tp⟩).data.toList, tk)) := by
              unfold Hid stepP; rw [if_pos ho]; simp [sepL, hk4]
            have hap : Hid ((⟨l.toArray⟩ : ByteArray) ++ Tok.txt ⟨tk, tt, tn, tp⟩ = ⟨(l ++ (Tok.txt ⟨tk, tt, tn, tp⟩).data.toList).toArray⟩) := str_app _ _
            have hz : (⟨l.toArray⟩ : ByteArray).size ≤ 4500000000000 := by rw [size_arr]; exact hll'
            have e2 : (tk != 4) = false := by simp [hk4]
            clear hl4 hk4
            go_wp2_with (go_at_call 16; refine (f16_Check _ _ _ _ _ hf.1).mono ?_; rw [ho, show checkE true = 0 from rfl]; rintro e w1 ⟨rfl, h1⟩; have hb1 := hbel.trans (h1.mono hbel.size); obtain ⟨d0, d1, d2, d3⟩ := hc4.below hb1 hg; clear h1 hbel c0 c1 c2 c3)
            refine (f18_Text _ _ _ _ _ hf.1 hf.2).mono ?_
            rintro e w3 ⟨rfl, h3⟩
            have hb3 := hb1.trans (h3.mono hb1.size)
            clear h3 hb1 d0 d1 d2 d3
            obtain ⟨d0, d1, d2, d3⟩ := hc4.below hb3 hg
            go_wp2
            go_roundw
            case rel =>
              exact ⟨k + 1, by omega, by go_num, by rw [hsn.out, hst.out], by rw [hsn.out, hst.out]; exact congrArg Value.string hap.out, hb3⟩
            case measure => simp [intOf]; omega
          · have hst : Hid (stepP (l, last) ⟨tk, tt, tn, tp⟩ = (l ++ [32] ++ (Tok.txt ⟨tk, tt, tn, tp⟩).data.toList, tk)) := by
              unfold Hid stepP; rw [if_pos ho]; simp [sepL, hk4, hl4]
            have hap : Hid (((⟨l.toArray⟩ : ByteArray) ++ ⟨#[32]⟩) ++ Tok.txt ⟨tk, tt, tn, tp⟩ = ⟨(l ++ [32] ++ (Tok.txt ⟨tk, tt, tn, tp⟩).data.toList).toArray⟩) := by unfold Hid; rw [str_snoc, str_app]
            have hz : (⟨l.toArray⟩ : ByteArray).size ≤ 4500000000000 := by rw [size_arr]; exact hll'
            have e2 : (tk != 4) = true := by simp [hk4]
            clear hl4 hk4
            go_wp2_with (go_at_call 16; refine (f16_Check _ _ _ _ _ hf.1).mono ?_; rw [ho, show checkE true = 0 from rfl]; rintro e w1 ⟨rfl, h1⟩; have hb1 := hbel.trans (h1.mono hbel.size); obtain ⟨d0, d1, d2, d3⟩ := hc4.below hb1 hg; clear h1 hbel c0 c1 c2 c3)
            refine (f18_Text _ _ _ _ _ hf.1 hf.2).mono ?_
            rintro e w3 ⟨rfl, h3⟩
            have hb3 := hb1.trans (h3.mono hb1.size)
            clear h3 hb1 d0 d1 d2 d3
            obtain ⟨d0, d1, d2, d3⟩ := hc4.below hb3 hg
            go_wp2
            go_roundw
            case rel =>
              exact ⟨k + 1, by omega, by go_num, by rw [hsn.out, hst.out], by rw [hsn.out, hst.out]; exact congrArg Value.string hap.out, hb3⟩
            case measure => simp [intOf]; omega
    · obtain rfl : k = ts.length := by omega
      have hend : (⟨(stP ts ts.length).1.toArray⟩ : ByteArray) = R := by rw [← HR.out]; unfold stP; rw [List.take_length]; rfl
      rw [hend]
      clear hend HR
      go_wp2
      go_ret
      exact ⟨rfl, hbel⟩
end Go.Proofs.YtijgmloodkbljaaGreatDoor
