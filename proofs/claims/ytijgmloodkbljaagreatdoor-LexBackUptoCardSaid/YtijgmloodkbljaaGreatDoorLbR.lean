import Derived.Test.YtijgmloodkbljaaGreatDoorLbN
import Derived.Test.YtijgmloodkbljaaGreatDoorLbP
import Derived.Test.YtijgmloodkbljaaGreatDoorLbQ
namespace Go.Proofs.YtijgmloodkbljaaGreatDoor
open Go Go.RowKit

abbrev gV : ByteArray := ⟨#[103, 46, 86, 40, 49, 41]⟩
def bTok : Nat → Tok
  | 0 => ⟨1, ⟨#[103]⟩, 0, 0⟩
  | 1 => ⟨4, ⟨#[46]⟩, 0, 1⟩
  | 2 => ⟨1, ⟨#[86]⟩, 0, 2⟩
  | 3 => ⟨4, ⟨#[40]⟩, 0, 3⟩
  | 4 => ⟨2, ⟨#[]⟩, 1, 4⟩
  | _ => ⟨4, ⟨#[41]⟩, 0, 5⟩
def bNx (k : Nat) : Option (Tok × Nat) := if k < 6 then some (bTok k, k + 1) else none
theorem bSkip (k : Nat) (hk : k ≤ 6) : skip gV k = k := by
  have e : gV.size = 6 := rfl
  rw [skip]
  have hall : ∀ i : Fin 6, isBl (gV.data.toList.getD i.1 0) = false := by decide
  by_cases h : k < gV.size
  · have hb : isBl gV[k] = false := by
      have h1 := hall ⟨k, by omega⟩
      rw [← getD_at gV k h]
      exact h1
    rw [dif_pos h, hb]
    rfl
  · rw [dif_neg h]

theorem bOne (k : Nat) (hk : k < 6) (w : World) : Calls Tryz.prog 228 #[.string (gV.extract k gV.size)] w (OneAt (bTok k) 1 w) := by
  have : k = 0 ∨ k = 1 ∨ k = 2 ∨ k = 3 ∨ k = 4 ∨ k = 5 := by omega
  rcases this with rfl | rfl | rfl | rfl | rfl | rfl
  · have e : gV.extract 0 gV.size = ⟨#[103, 46, 86, 40, 49, 41]⟩ := by decide +kernel
    rw [e]
    exact f228_name _ (by decide) (by decide) w (by decide) (by decide) 1 (by decide)
  · have e : gV.extract 1 gV.size = ⟨#[46, 86, 40, 49, 41]⟩ := by decide +kernel
    rw [e]
    exact f228_mark _ (by decide) (by decide) w (by decide)
  · have e : gV.extract 2 gV.size = ⟨#[86, 40, 49, 41]⟩ := by decide +kernel
    rw [e]
    exact f228_name _ (by decide) (by decide) w (by decide) (by decide) 1 (by decide)
  · have e : gV.extract 3 gV.size = ⟨#[40, 49, 41]⟩ := by decide +kernel
    rw [e]
    exact f228_mark _ (by decide) (by decide) w (by decide)
  · have e : gV.extract 4 gV.size = ⟨#[49, 41]⟩ := by decide +kernel
    rw [e]
    exact f228_one w
  · have e : gV.extract 5 gV.size = ⟨#[41]⟩ := by decide +kernel
    rw [e]
    exact f228_mark _ (by decide) (by decide) w (by decide)

theorem bNext (c k : Nat) (hc : 8 ≤ c) (hk : k ≤ gV.size) : NextOk c gV k (bNx k) 6 := by
  intro w h hL
  have e : gV.size = 6 := rfl
  by_cases h6 : k < 6
  · have hx : bNx k = some (bTok k, k + 1) := by unfold bNx; rw [if_pos h6]
    rw [hx]
    have : k = 0 ∨ k = 1 ∨ k = 2 ∨ k = 3 ∨ k = 4 ∨ k = 5 := by omega
    exact f161_some c gV k k 1 (bTok k) w h (by omega) (by decide) hL hc (bSkip k (by omega)) (by omega) (fun W _ => bOne k h6 W)
      (by rcases this with rfl | rfl | rfl | rfl | rfl | rfl <;> decide) (by rcases this with rfl | rfl | rfl | rfl | rfl | rfl <;> rfl) (by rcases this with rfl | rfl | rfl | rfl | rfl | rfl <;> decide) (by omega) (by omega)
  · have hx : bNx k = none := by unfold bNx; rw [if_neg h6]
    rw [hx]
    obtain rfl : k = 6 := by omega
    exact f161_end c gV 6 6 w h (by decide) (by decide) (bSkip 6 (by omega)) (by decide)

theorem bRun (xs : List Tok) (j : Nat) (h : Run bNx 0 xs j) : j ≤ 6 ∧ xs = (List.range j).map bTok := by
  induction h with
  | nil => exact ⟨by omega, rfl⟩
  | @snoc xs j j' t _ hx ih =>
    unfold bNx at hx
    by_cases h6 : j < 6
    · rw [if_pos h6] at hx
      simp only [Option.some.injEq, Prod.mk.injEq] at hx
      obtain ⟨rfl, rfl⟩ := hx
      refine ⟨by omega, ?_⟩
      rw [ih.2, List.range_succ, List.map_append]
      rfl
    · rw [if_neg h6] at hx; cases hx

set_option maxHeartbeats 2000000 in
set_option maxRecDepth 100000 in
theorem f19_begun (w : World) (hL : Laid w) : Calls Tryz.prog 19 #[] w (Ret (.bool true) w) := by
  have h22 := callsIn_wide.1 (f22_Lex 3 gV w (by decide) hL bNx (fun _ => 6) (fun c k hc hk => bNext c k hc hk) (fun k t j h => by
    unfold bNx at h
    by_cases h6 : k < 6
    · rw [if_pos h6] at h
      simp only [Option.some.injEq, Prod.mk.injEq] at h
      obtain ⟨_, rfl⟩ := h
      exact ⟨by omega, by show k + 1 ≤ 6; omega⟩
    · rw [if_neg h6] at h; cases h) (fun k hk => by show 6 ≤ 6; omega))
  go_enter Tryz.func19, Tryz.ntmps19
  go_wp2_with fail
  refine h22.mono ?_
  rintro e w1 ⟨v, at_, code, rfl, hb, hcase⟩
  rcases hcase with ⟨rfl, rfl, xs, j, hrun, hnx, hj, _, _, hown⟩ | ⟨_, xs, j, hrun, hlen⟩ | ⟨_, xs, j, hrun, hnx, hj, hsk⟩
  · obtain ⟨hj6, rfl⟩ := bRun xs j hrun
    have hj66 : j = 6 := by
      unfold bNx at hnx
      by_cases h6 : j < 6
      · rw [if_pos h6] at hnx; cases hnx
      · omega
    subst hj66
    have hcell : ∀ g cap, v = .slice (some ⟨g, 0, none⟩) 6 cap → ∀ i u, (((List.range 6).map bTok).flatMap tcells)[i]? = some u → w1.cell? ⟨g, i, none⟩ = some u := by
      intro g cap hv i u hu
      have hc := World.ownsRow.cells hown (g := g) (by rw [hv]; rfl) i u hu
      have ha : (⟨g, 0, none⟩ : Addr).add i = ⟨g, 0 + i, none⟩ := by unfold Addr.add; split <;> simp_all
      rwa [ha, Nat.zero_add] at hc
    rcases hown.2 with ⟨_, h0⟩ | ⟨g, cap, cur, hv, _⟩
    · simp at h0
    · have hv' : v = .slice (some ⟨g, 0, none⟩) 6 cap := by rw [hv]; rfl
      have k0 := hcell g cap hv' 16 (.int .i64 2) rfl
      have k1 := hcell g cap hv' 17 (.string ⟨#[]⟩) rfl
      have k2 := hcell g cap hv' 18 (.int .i64 1) rfl
      have k3 := hcell g cap hv' 19 (.int .i64 4) rfl
      clear hcell hown hv
      subst hv'
      go_wp2
      go_ret
      exact ⟨rfl, hb⟩
  · obtain ⟨hj6, rfl⟩ := bRun xs j hrun
    rw [List.length_map, List.length_range] at hlen
    omega
  · exfalso
    rw [bSkip 6 (by omega)] at hsk
    exact absurd hsk (by decide)
end Go.Proofs.YtijgmloodkbljaaGreatDoor

namespace Go.Proofs.YtijgmloodkbljaaGreatDoor
open Go Go.RowKit

set_option maxHeartbeats 8000000 in
set_option maxRecDepth 100000 in
theorem f23_same (v v' : Value) (ts us : List Tok) (w : World) (hT : Toks w v ts) (hU : Toks w v' us) (h : ts.map Tok.bare = us.map Tok.bare) :
    Calls Tryz.prog 23 #[v, v'] w (Ret (.bool true) w) := by
  have hl : us.length = ts.length := by have := congrArg List.length h; simpa using this.symm
  have hsame : ∀ k (h1 : k < ts.length) (h2 : k < us.length), ts[k].bare = us[k].bare := by
    intro k h1 h2
    have e1 : (ts.map Tok.bare)[k]'(by simpa using h1) = ts[k].bare := by simp
    have e2 : (us.map Tok.bare)[k]'(by simpa using h2) = us[k].bare := by simp
    rw [← e1, ← e2]
    simp only [h]
  have htl := hT.len
  obtain ⟨bb, cc, rfl, hcell⟩ := hT.form
  obtain ⟨bb', cc', rfl, hcell'⟩ := hU.form
  rw [hl]
  have hcell'' : ∀ (i : Nat) (h : i < ts.length) (h2 : i < us.length), ∃ g off, bb' = some ⟨g, off, none⟩ ∧ g < w.heap.size ∧ Cell4 w g (off + i * 4) us[i] := fun i h h2 => hcell' i h2
  have HC := hide hcell
  have HC' := hide hcell''
  have HS := hide hsame
  have HLL := Lib.hid hl
  clear hcell hcell' hcell'' hT hU h hsame hl
  go_enter Tryz.func23, Tryz.ntmps23
  go_wp2
  go_loopw [5] (fun i wr => ∃ k : Nat, k ≤ ts.length ∧ i = .int .i64 k ∧ Below w.heap.size w wr) (fun i _ => ts.length - (intOf i).toNat)
  case atStart => exact ⟨0, by omega, rfl, Below.refl _ _⟩
  case round =>
    obtain ⟨k, hk, rfl, hbel⟩ := hrel
    by_cases hlt : k < ts.length
    · obtain ⟨g, off, rfl, hg, hc4⟩ := (unhide HC) k hlt
      have hlt' : k < us.length := by have := HLL.out; omega
      obtain ⟨g', off', rfl, hg', hc4'⟩ := (unhide HC') k hlt hlt'
      obtain ⟨c0, c1, c2, c3⟩ := hc4.below hbel hg
      obtain ⟨c0', c1', c2', c3'⟩ := hc4'.below hbel hg'
      have hb := (unhide HS) k hlt hlt'
      generalize ts[k] = t at *
      generalize us[k] = u at *
      clear hlt'
      obtain ⟨tk, tt, tn, tp⟩ := t
      obtain ⟨uk, ut, un, up⟩ := u
      simp only [Tok.bare, Tok.put, Tok.mk.injEq] at hb
      obtain ⟨rfl, rfl, rfl, _⟩ := hb
      go_wp2
      go_region
      all_goals
        go_wp2
        go_roundw
        case rel => exact ⟨k + 1, by omega, by go_num, by first | exact hbel | exact hbel.drew⟩
        case measure => simp [intOf]; omega
    · obtain rfl : k = ts.length := by omega
      go_wp2
      go_ret
      exact ⟨rfl, hbel⟩
end Go.Proofs.YtijgmloodkbljaaGreatDoor

namespace Go.Proofs.YtijgmloodkbljaaGreatDoor
open Go Go.RowKit

/-- What Lex is known to hand back at a text: an error, or tokens that may be. -/
def LexR (w : World) (e : Ending) (W' : World) : Prop :=
  ∃ v at_ code, e = .returned (.tuple #[v, .int .i64 at_, .int .i64 code]) ∧ Below w.heap.size w W' ∧ (code ≠ 0 ∨ (code = 0 ∧ ∃ xs, Toks W' v xs ∧ (∀ t ∈ xs, t.ok = true ∧ I64n t.n) ∧ xs.length ≤ 4096))
theorem f22_any (s : ByteArray) (w : World) (hs : s.size ≤ 1048576) (hL : LdE w) : Calls Tryz.prog 22 #[.string s] w (LexR w) := by
  by_cases h : s.size ≤ 16384
  · refine (f22_fine s w h hL).mono ?_
    rintro e W' ⟨v, at_, code, rfl, hb, hc⟩
    rcases hc with ⟨rfl, rfl, xs, j, hrun, hnx, hj, _, hx, hown⟩ | ⟨rfl, _⟩ | ⟨rfl, _⟩
    · have hf := ch_fine hrun.ch (Nat.zero_le _)
      exact ⟨v, _, 0, rfl, hb, .inr ⟨rfl, xs, hown.toks (fun t ht => ⟨by have := (hf t ht).2.2; omega, (hf t ht).2.1⟩) (by omega), fun t ht => ⟨(hf t ht).1, (hf t ht).2.1⟩, hx⟩⟩
    · exact ⟨v, _, 3, rfl, hb, .inl (by decide)⟩
    · exact ⟨v, _, 150, rfl, hb, .inl (by decide)⟩
  · refine (f22_long s w h (by omega)).mono ?_
    rintro e W' ⟨rfl, hb⟩
    exact ⟨_, _, 3, rfl, hb, .inl (by decide)⟩
/-- What Lex hands back at the text of tokens. -/
def LexB (s : ByteArray) (ts : List Tok) (w : World) (e : Ending) (W' : World) : Prop :=
  ∃ v xs, e = .returned (.tuple #[v, .int .i64 s.size, .int .i64 0]) ∧ Below w.heap.size w W' ∧ ts.map Tok.bare = xs.map Tok.bare ∧ Toks W' v xs ∧ printS xs = s
theorem f22_back (s : ByteArray) (ts : List Tok) (w : World) (hs : s = printS ts) (hsz : s.size ≤ 16384) (hok : ∀ t ∈ ts, t.ok = true ∧ I64n t.n) (hlen : ts.length ≤ 4096) (hL : LdE w) : Calls Tryz.prog 22 #[.string s] w (LexB s ts w) := by
  refine (f22_fine s w hsz hL).mono ?_
  intro e W' h
  obtain ⟨v, xs, rfl, hb, hy, hown, hch⟩ := lex_back s ts hs hok hlen h
  have hf := ch_fine hch (Nat.zero_le _)
  have hl2 : xs.length = ts.length := by simpa using congrArg List.length hy
  exact ⟨v, xs, rfl, hb, hy.symm, hown.toks (fun t ht => ⟨by have := (hf t ht).2.2; omega, (hf t ht).2.1⟩) (by omega), by rw [hs]; exact print_bare xs ts (fun t ht => (hf t ht).1) (fun t ht => (hok t ht).1) hy⟩
theorem print_size (ts : List Tok) (hf : ∀ t ∈ ts, t.fine) (hl : ts.length ≤ 1048576) : (printS ts).size ≤ 4500000000000 := by
  have h := stP_len ts hf hl ts.length (Nat.le_refl _)
  have e : stP ts ts.length = ts.foldl stepP ([], 4) := by unfold stP; rw [List.take_length]
  rw [e] at h
  show (ByteArray.mk _).size ≤ _
  rw [size_arr]
  exact h

set_option maxHeartbeats 8000000 in
set_option maxRecDepth 100000 in
theorem f4_LexBack (v : Value) (ts : List Tok) (s : ByteArray) (w : World) (hT : Toks w v ts) (hs : s.size ≤ 1048576) (hL : LdE w) : Calls Tryz.prog 4 #[v, .string s] w (Ret (.bool true) w) := by
  have HT := Lib.hid hT
  obtain ⟨bb, cc, rfl, hcell⟩ := hT.form
  have HC := hide hcell
  have hfine := Lib.hid hT.fine
  have htl := hT.len
  have HL := Lib.hid hL
  have HSZ := Lib.hid hs
  clear hcell hT hL hs
  go_enter Tryz.func4, Tryz.ntmps4
  go_wp2_with fail
  refine (f19_begun w HL.out.laid).mono ?_
  rintro e w1 ⟨rfl, hb1⟩
  have hL1 := HL.out.ret hb1
  have HL1 := hide hL1
  have HS := hide (f22_any s w1 HSZ.out hL1)
  clear hL1
  go_wp2_with fail
  refine (unhide HS).mono ?_
  rintro e w2 ⟨va, at_, code, rfl, hb2, hc⟩
  have hb12 := hb1.trans (hb2.mono hb1.size)
  go_upto_if 27 with fail
  go_cut [] from 5 (fun wc => Below w.heap.size w wc)
  case first =>
    rcases hc with hc | ⟨rfl, xs, hTx, hok, hxl⟩
    · have hcb : (code == 0) = false := by simpa using hc
      go_wp2_with fail
      go_meet
      exact hb12
    · have hT2 := Lib.hid hTx
      have hok2 := hide hok
      obtain ⟨bx, cx, rfl, _⟩ := hTx.form
      have hxl2 : xs.length ≤ 1048576 := by omega
      have hps := print_size xs hTx.fine hxl2
      clear hTx hok
      have hL2 := (unhide HL1).ret hb2
      have HL2 := hide hL2
      have H20 := hide (f20_Print _ xs w2 hT2.out hL2.laid)
      clear hL2
      go_wp2_with fail
      refine (unhide H20).mono ?_
      rintro e w3 ⟨rfl, hb3⟩
      have hT3 := Lib.hid (hT2.out.below hb3)
      have hb13 := hb12.trans (hb3.mono hb12.size)
      obtain ⟨p, hp⟩ : ∃ p, p = printS xs := ⟨_, rfl⟩
      have HP := hide hp
      rw [← hp] at hps ⊢
      clear hp
      have hL3 := (unhide HL2).ret hb3
      by_cases h16 : p.size ≤ 16384
      · have H22 := hide (f22_back p xs w3 (unhide HP) h16 (unhide hok2) hxl hL3)
        have HL3 := hide hL3
        clear hL3
        have h16i : (p.size : Int) ≤ 16384 := by omega
        go_wp2_with fail
        refine (unhide H22).mono ?_
        rintro e w4 ⟨vb, ys, rfl, hb4, hsame, hTy, hpy⟩
        have hT4 := hT3.out.below hb4
        have hL4 := (unhide HL3).ret hb4
        have H23 := hide (f23_same _ _ xs ys w4 hT4 hTy hsame)
        have HTY := hide hTy
        have HL4 := hide hL4
        have HPY := hide hpy
        obtain ⟨by_, cy, rfl, _⟩ := hTy.form
        have hb14 := hb13.trans (hb4.mono hb13.size)
        clear hsame hTy hpy hT4 hL4
        go_wp2_with fail
        refine (unhide H23).mono ?_
        rintro e w5 ⟨rfl, hb5⟩
        have H20' := hide (f20_Print _ ys w5 ((unhide HTY).below hb5) ((unhide HL4).ret hb5).laid)
        have hb15 := hb14.trans (hb5.mono hb14.size)
        go_wp2_with fail
        refine (unhide H20').mono ?_
        rw [unhide HPY]
        rintro e w6 ⟨rfl, hb6⟩
        have hb16 := hb15.trans (hb6.mono hb15.size)
        go_wp2_with fail
        go_meet
        exact hb16
      · have H22 := hide (f22_long p w3 h16 (by omega))
        have h16i : ¬ (p.size : Int) ≤ 16384 := by omega
        clear hL3
        go_wp2_with fail
        refine (unhide H22).mono ?_
        rintro e w4 ⟨rfl, hb4⟩
        have hb14 := hb13.trans (hb4.mono hb13.size)
        go_wp2_with fail
        go_meet
        exact hb14
  case rest =>
    have hb := hcut
    have hL := HL.out.ret hb
    have HL3 := hide hL
    clear hL hc hb12 hb2 HL1 HS hb1
    by_cases hlong : ts.length ≤ 4096
    case neg =>
      have hl4 : ¬ (ts.length : Int) ≤ 4096 := by omega
      go_wp2
      go_ret
      exact ⟨rfl, hb⟩
    have hl4 : (ts.length : Int) ≤ 4096 := by omega
    have h0 : ∀ t ∈ ts.take 0, t.ok = true := by simp
    have H0 := hide h0
    clear h0
    go_wp2
    go_loopw [60] (fun i wr => ∃ k : Nat, k ≤ ts.length ∧ i = .int .i64 k ∧ Below w.heap.size w wr ∧ Hid (∀ t ∈ ts.take k, t.ok = true)) (fun i _ => ts.length - (intOf i).toNat)
    case atStart => exact ⟨0, by omega, rfl, hb, H0⟩
    case round =>
      obtain ⟨k, hk, rfl, hbel, hall⟩ := hrel
      by_cases hlt : k < ts.length
      · obtain ⟨g, off, rfl, hg, hc4⟩ := (unhide HC) k hlt
        obtain ⟨c0, c1, c2, c3⟩ := hc4.below hbel hg
        have hf := hfine.out _ (List.getElem_mem hlt)
        have hnext : Hid (ts[k].ok = true → ∀ t ∈ ts.take (k + 1), t.ok = true) := by
          unfold Hid
          intro ho t ht
          rw [List.take_succ_eq_append_getElem hlt, List.mem_append] at ht
          rcases ht with ht | ht
          · exact hall.out t ht
          · rw [List.mem_singleton.1 ht]; exact ho
        generalize ts[k] = t at *
        obtain ⟨tk, tt, tn, tp⟩ := t
        have hbw : Below w.heap.size w (wr.alloc (.cells #[.int .i64 tk, .string tt, .int .i64 tn, .int .i64 tp] 24)) := hbel.alloc hbel.size _
        cases ho : Tok.ok ⟨tk, tt, tn, tp⟩
        · go_wp2_with fail
          refine (f15_Check _ _ _ _ _ hf.1).mono ?_
          rw [ho, show checkE false = 150 from rfl]
          rintro e w1 ⟨rfl, h1⟩
          have hfin := hbw.trans (h1.mono hbw.size)
          go_wp2
          go_ret
          exact ⟨rfl, hfin⟩
        · go_wp2_with fail
          refine (f15_Check _ _ _ _ _ hf.1).mono ?_
          rw [ho, show checkE true = 0 from rfl]
          rintro e w1 ⟨rfl, h1⟩
          have hfin := hbw.trans (h1.mono hbw.size)
          have hn := hide ((unhide hnext) ho)
          clear hnext ho
          go_wp2
          go_roundw
          case rel => exact ⟨k + 1, by omega, by go_num, hfin, hn⟩
          case measure => simp [intOf]; omega
      · obtain rfl : k = ts.length := by omega
        have hok : ∀ t ∈ ts, t.ok = true ∧ I64n t.n := fun t ht => ⟨hall.out t (by rw [List.take_length]; exact ht), (hfine.out t ht).2⟩
        have HOK := hide hok
        have hps := print_size ts hfine.out htl
        have hTr := HT.out.below hbel
        have hLr := HL.out.ret hbel
        have HLr := hide hLr
        have HTr := hide hTr
        have H20 := hide (f20_Print _ ts wr hTr hLr.laid)
        obtain ⟨p, hp⟩ : ∃ p, p = printS ts := ⟨_, rfl⟩
        have HP := hide hp
        rw [← hp] at hps H20
        clear hp hTr hLr hok hall
        go_wp2_with fail
        refine (unhide H20).mono ?_
        rintro e w1 ⟨rfl, hb1⟩
        have hfin1 := hbel.trans (hb1.mono hbel.size)
        by_cases h16 : p.size ≤ 16384
        · have h16i : (p.size : Int) ≤ 16384 := by omega
          have H22 := hide (f22_back p ts w1 (unhide HP) h16 (unhide HOK) hlong ((unhide HLr).ret hb1))
          go_wp2_with fail
          refine (unhide H22).mono ?_
          rintro e w4 ⟨vb, ys, rfl, hb4, hsame, hTy, hpy⟩
          have hT4 := ((unhide HTr).below hb1).below hb4
          have H23 := hide (f23_same _ _ ts ys w4 hT4 hTy hsame)
          obtain ⟨by_, cy, rfl, _⟩ := hTy.form
          have hb14 := hfin1.trans (hb4.mono hfin1.size)
          clear hsame hTy hpy hT4
          go_wp2_with fail
          refine (unhide H23).mono ?_
          rintro e w5 ⟨rfl, hb5⟩
          have hb15 := hb14.trans (hb5.mono hb14.size)
          go_wp2
          go_ret
          exact ⟨rfl, hb15⟩
        · have h16i : ¬ (p.size : Int) ≤ 16384 := by omega
          go_wp2
          go_ret
          exact ⟨rfl, hfin1⟩
end Go.Proofs.YtijgmloodkbljaaGreatDoor
