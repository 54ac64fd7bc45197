import Derived.Test.YtijgmloodkbljaaGreatDoorLbK
namespace Go.Proofs.YtijgmloodkbljaaGreatDoor
open Go Go.RowKit

theorem itemsP_step (p : List UInt8 → Option (Val × List UInt8)) (e : UInt8) (many : Bool) (f : Nat) (first : Bool) (l : List UInt8) : itemsP p e many (f + 1) first l =
    if l.head? = some e then some ([], l.tail)
    else (if first then some l else mustP [44, 32] l).bind fun l1 => (oneP p many l1).bind fun x =>
      if x.2.head? = some e ∨ x.2.head? = some 44 then (itemsP p e many f false x.2).map fun y => (x.1 ++ y.1, y.2) else none := rfl
abbrev zeroV38 : Value := .agg #[.int .i64 0, .int .i64 0, .string ⟨#[]⟩, .slice none 0 0]
theorem isE_app (vs us : List Val) (h : us ≠ []) : (vs ++ us).isEmpty = false := by
  cases vs with
  | nil => cases us with | nil => exact absurd rfl h | cons a b => rfl
  | cons a b => rfl

set_option maxHeartbeats 16000000 in
set_option maxRecDepth 100000 in
theorem f315_list (d : Nat) (D : Int) (hD : D = 8 - (d : Int)) (hd8 : d ≤ 8) (ih : ValOk d) (e : UInt8) (he0 : e ≠ 0) (he : e ≠ 44) (many : Bool) (m : Int) (hm : m = if many = true then 2 else 1)
    (r : Nat) (s : ByteArray) (k : Nat) (w : World) (h : RdAt r s k w) (c0 : UInt8) (l : List UInt8) (hl : s.data.toList.drop k = c0 :: l) (hs : s.size ≤ 1048576) (hL : LdE w) (hr8 : 8 ≤ r) :
    Calls Tryz.prog 315 #[.pointer (some ⟨r, 0, none⟩), .int .i64 D, .int .u8 e.toNat, .int .i64 m] w (LstRd (itemsP (valP d) e many (l.length + 1) true l) r s w) := by
  generalize hR : itemsP (valP d) e many (l.length + 1) true l = R
  have HR := Lib.hid hR
  clear hR
  obtain ⟨hD1, hkl⟩ := drop_succ_of hl
  have hll : l.length = s.size - (k + 1) := by rw [← hD1]; simp
  have hrl : r < w.heap.size := (Array.getElem?_eq_some_iff.1 h).1
  have hval : ∀ (j : Nat) (W : World), RdAt r s j W → j ≤ s.size → LdE W → Calls Tryz.prog 236 #[.pointer (some ⟨r, 0, none⟩), .int .i64 (D + 1)] W (ValRd (valP d (s.data.toList.drop j)) r s W) := by
    intro j W h1 h2 h3
    have := ih r s j W h1 h2 hs h3 hr8
    rwa [show (9 : Int) - (d : Int) = D + 1 by omega] at this
  have HVAL := hide hval
  have HLE := hide hL
  have HD1 := Lib.hid hD1
  have hDb : 0 ≤ D ∧ D ≤ 8 := by omega
  obtain ⟨hDb1, hDb2⟩ := hDb
  have HM := Lib.hid hm
  clear hval hL hD1 hl hD ih hm
  have hm2 : (m == 2) = many := by rw [HM.out]; cases many <;> rfl
  have HM2 := Lib.hid hm2
  clear hm2
  have c1 : w.cell? ⟨r, 1, none⟩ = some (.int .i64 k) := Lib.cell_of_heap h 1
  have cf : w.frozen? ⟨r, 1, none⟩ = false := Lib.frozen_of_heap h 1
  obtain ⟨hr1, hg1⟩ := h.set (k + 1)
  have ek : ((k + 1 : Nat) : Int) = (k : Int) + 1 := by omega
  rw [ek] at hr1 hg1
  obtain ⟨B, hB⟩ : ∃ B, w.heap.size = B := ⟨_, rfl⟩
  have hO0 := LV.nil B (w.setCell ⟨r, 1, none⟩ (.int .i64 ((k : Int) + 1)))
  rw [hB] at hrl
  have HB := Lib.hid hB
  have HR1 := hide hr1
  have HG1 := hide hg1
  clear ek hr1 hg1 h hB
  have hps := byte_bounds e
  go_enter Tryz.func315, Tryz.ntmps315
  go_wp2_with fail
  go_loopw [9] (fun v wr => ∃ (j f : Nat) (vs : List Val), j ≤ s.size ∧ vs.length ≤ j ∧ s.size - j < f ∧ LV B v vs wr ∧ Hid ((itemsP (valP d) e many f vs.isEmpty (s.data.toList.drop j)).map (fun y => (vs ++ y.1, y.2)) = R) ∧ RdAt r s j wr ∧ GC r w wr) (fun _ wr => s.size - posOf r wr)
  case atStart =>
    refine ⟨k + 1, l.length + 1, [], by omega, by simp, by omega, hO0, ?_, unhide HR1, unhide HG1⟩
    unfold Hid
    rw [HD1.out, ← HR.out]
    show Option.map _ (itemsP (valP d) e many (l.length + 1) true l) = _
    cases itemsP (valP d) e many (l.length + 1) true l <;> rfl
  case round =>
    clear hO0 HR1 HG1 HD1 HR c1 cf hll
    obtain ⟨j, f, vs, hj, hvl, hf, hO, H, hrj, hgj⟩ := hrel
    have hpos := hrj.pos
    obtain ⟨T, hT⟩ : ∃ T, s.data.toList.drop j = T := ⟨_, rfl⟩
    have h309 := f309_any r s j _ hrj T hT
    have HTT := Lib.hid hT
    clear hT
    obtain ⟨f, rfl⟩ : ∃ g, f = g + 1 := ⟨f - 1, by omega⟩
    go_wp2_with fail
    refine h309.mono ?_
    clear h309
    rintro e2 w2 ⟨rfl, h2⟩
    have hr2 := hrj.below h2
    have hg2 := hgj.trans (GC.of_below h2)
    have hO2 := hO.below h2
    clear h2 hrj hgj hO
    by_cases hend : T.head? = some e
    · -- the end
      obtain ⟨T', rfl⟩ : ∃ T', T = e :: T' := by
        cases T with
        | nil => cases hend
        | cons a t => exact ⟨t, by simp at hend; rw [hend]⟩
      have hRs : Hid (R = some (vs, T')) := by
        unfold Hid; rw [← H.out, HTT.out, itemsP_step, if_pos (show (e :: T').head? = some e from rfl)]; simp
      obtain ⟨hD2, hjl⟩ := drop_succ_of HTT.out
      have ehe : hereU (e :: T') = e := rfl
      rw [ehe]
      have c1 : w2.cell? ⟨r, 1, none⟩ = some (.int .i64 j) := Lib.cell_of_heap hr2 1
      have cf : w2.frozen? ⟨r, 1, none⟩ = false := Lib.frozen_of_heap hr2 1
      obtain ⟨h4, h5⟩ := hr2.set (j + 1)
      have hO4 := hO2.gc h5 hrl
      have hg4 := hg2.trans h5
      have ej : ((j + 1 : Nat) : Int) = (j : Int) + 1 := by omega
      rw [ej] at h4 hO4 hg4
      have H4 := hide h4
      have HO4 := hide hO4
      have HG4 := hide hg4
      have HD2 := Lib.hid hD2
      clear h4 h5 hO4 hg4 ej hD2 ehe hend H
      obtain ⟨A, cc, rfl⟩ := hO2.form
      go_wp2
      go_ret
      refine LstRd.some hRs.out (by omega) HD2.out ?_ (unhide H4) (unhide HG4)
      have := (unhide HO4).done (by omega)
      rw [HB.out]
      exact this
    · -- one round more
      have hRne : Hid (R = ((if vs.isEmpty = true then some T else mustP [44, 32] T).bind fun l1 => (oneP (valP d) many l1).bind fun x =>
          if x.2.head? = some e ∨ x.2.head? = some 44 then (itemsP (valP d) e many f false x.2).map fun y => (x.1 ++ y.1, y.2) else none).map fun y => (vs ++ y.1, y.2)) := by
        unfold Hid; rw [← H.out, HTT.out, itemsP_step, if_neg hend]
      have hne : (((hereU T).toNat : Int) != (e.toNat : Int)) = true := by
        have := fun h => hend ((here_eq he0 T).1 h)
        simpa using this
      have HH := hide hend
      clear H hend
      obtain ⟨A, cc, rfl⟩ := hO2.form
      cases hvs : vs.isEmpty
      case' true =>
        have g1 : decide ((0 : Int) < (vs.length : Int)) = false := by
          have : vs = [] := by simpa using hvs
          rw [this]; rfl
        have g2 : decide (0 < vs.length) = false := by
          have : vs = [] := by simpa using hvs
          rw [this]; rfl
        have hR1 : Hid (R = ((oneP (valP d) many T).bind fun x =>
            if x.2.head? = some e ∨ x.2.head? = some 44 then (itemsP (valP d) e many f false x.2).map fun y => (x.1 ++ y.1, y.2) else none).map fun y => (vs ++ y.1, y.2)) := by
          unfold Hid; rw [hRne.out, hvs]; rfl
        clear hvs hRne
        go_wp2_with fail
        obtain ⟨j1, hj1⟩ : ∃ j1, j1 = j := ⟨j, rfl⟩
        rw [← hj1] at HTT hr2
        have hj1s : j1 ≤ s.size := by omega
        have hj1j : j ≤ j1 := by omega
        obtain ⟨T1, hT1⟩ : ∃ T1, T1 = T := ⟨T, rfl⟩
        rw [← hT1] at HTT hR1
        clear hj1 hT1 g1 g2 hne
      case' false =>
        have g1 : decide ((0 : Int) < (vs.length : Int)) = true := by
          cases vs with
          | nil => cases hvs
          | cons a b => simp
        have g2 : 0 < vs.length := by
          cases vs with
          | nil => cases hvs
          | cons a b => simp
        have hmust := f313_must r s j ⟨#[44, 32]⟩
        go_wp2_with fail
        refine (hmust _ hr2 hj hs (by decide)).mono ?_
        rintro e3 w3 hm2
        have hm3 : MustR (mustP [44, 32] (s.data.toList.drop j)) r s (j + 2) w2 e3 w3 := hm2
        rw [HTT.out] at hm3
        clear hm2 hmust
        cases hmp : mustP [44, 32] T
        case' none =>
          rw [hmp] at hm3
          have hRn : Hid (R = none) := by unfold Hid; rw [hRne.out, hvs, if_neg (by decide), hmp]; rfl
          obtain ⟨q, rfl, hg3⟩ := hm3
          exact ⟨rfl, LstRd.none hRn.out ⟨q, rfl, hg2.trans hg3⟩⟩
        case' some T1 =>
          rw [hmp] at hm3
          obtain ⟨rfl, hr3, hg3⟩ := hm3
          have hR1 : Hid (R = ((oneP (valP d) many T1).bind fun x =>
              if x.2.head? = some e ∨ x.2.head? = some 44 then (itemsP (valP d) e many f false x.2).map fun y => (x.1 ++ y.1, y.2) else none).map fun y => (vs ++ y.1, y.2)) := by
            unfold Hid; rw [hRne.out, hvs, if_neg (by decide), hmp]; rfl
          obtain ⟨hD3, hk3⟩ := must_at hj HTT.out hmp
          have hO3 := hO2.gc hg3 hrl
          replace hg2 := hg2.trans hg3
          replace hO2 := hO3
          replace hr2 := hr3
          obtain ⟨j1, hj1⟩ : ∃ j1, j1 = j + 2 := ⟨_, rfl⟩
          have hj1s : j1 ≤ s.size := by rw [hj1]; exact hk3
          have hj1j : j ≤ j1 := by omega
          have HTT : Hid (s.data.toList.drop j1 = T1) := by rw [hj1]; exact hD3
          rw [← hj1] at hr2
          clear hj1 g1 g2 hne hO3 hr3 hg3 hmp hvs hRne hD3 hk3
          go_wp2_with fail
      all_goals
        have hLE1 := (unhide HLE).gc hg2 hr8
        generalize Value.slice A vs.length cc = sv at hO2 ⊢
        refine ((unhide HVAL) j1 _ hr2 hj1s hLE1).mono ?_
        clear hLE1
        rintro e3 w3 hv
        rw [HTT.out] at hv
        have hBw := Nat.le_trans (Nat.le_of_eq HB.out.symm) hg2.size
        cases hvp : valP d T1
        case none =>
          rw [hvp] at hv
          have hRn : Hid (R = none) := by unfold Hid; rw [hR1.out]; unfold oneP; rw [hvp]; rfl
          obtain ⟨q, rfl, hg3⟩ := hv
          exact ⟨rfl, LstRd.none hRn.out ⟨q, rfl, hg2.trans hg3⟩⟩
        case some y =>
          obtain ⟨y1, T2⟩ := y
          rw [hvp] at hv
          obtain ⟨v1, j2, hj2, hl2, rfl, hv1, hr3, hg3⟩ := hv
          have hlt2 := valP_lt hvp
          have hjj := drop_pos hj1s hj2 HTT.out hl2 hlt2
          have hO3 := hO2.gc hg3 hrl
          have hx := valIn hO2 hBw hv1
          have hg33 := hg2.trans hg3
          obtain ⟨ky, ny, sy, ly⟩ := y1
          have hx0 := hx
          obtain ⟨_, _, _, _, Ay, cy, hve, _⟩ := hx0
          subst hve
          have hp1 : ∀ u ∈ [Value.int .i64 ky, .int .i64 ny, .string sy, .slice Ay ly.length cy], u.oneCell' = true := by
            intro u hu
            simp only [List.mem_cons, List.mem_nil_iff, or_false] at hu
            rcases hu with rfl | rfl | rfl | rfl <;> rfl
          obtain ⟨q, hq1, hq2, hq3⟩ := hO3.own
          have hBW : B ≤ w3.heap.size := by have := hg3.size; omega
          obtain ⟨i0, hi0, hz0, hz1, hz2⟩ := info_parts infoVal
          have HVP := Lib.hid hvp
          have HL2 := Lib.hid hl2
          have HR3 := hide hr3
          have HG3 := hide hg33
          have HX := hide hx
          have HQ3 := hide hq3
          have HQ1 := Lib.hid hq1
          have HBW := hide hBw
          clear hvp hl2 hv1 hr3 hg3 hO3 hx hg33 hq3 hq1 hO2 hr2 hg2 hlt2 hBw
          go_wp2_with (at_builtin; refine wpList_append_own_at _ rfl _ _ 36 rfl B 38 i0 zeroV38 4 56 Tryz.underlying36 hi0 hz0 hz1 hz2 rfl (by decide) _ _ _ rfl (World.ownsRow.alloc hq2 _) ⟨w3.heap.size, 0, none⟩ 1 1 [.int .i64 ky, .int .i64 ny, .string sy, .slice Ay ly.length cy] rfl rfl ?_ hp1 ?_ ?_ ?_ ?_)
          · intro i u hu
            rw [add_zero_off, Lib.cell_of_heap (heap_alloc_new w3 _) i]
            simpa using hu
          · unfold maxLen; omega
          · omega
          · simp; omega
          intro sv1 w4 hown4 hgrow4 _ hat4
          obtain ⟨hO4, hr4, hg4⟩ := LV.step (p := (.int .i64 ky, .int .i64 ny, .string sy, .slice Ay ly.length cy)) HB.out HQ1.out hq2 (unhide HQ3) (unhide HX) (unhide HR3) (unhide HG3) hrl hown4 hgrow4 (by rw [World.size_alloc]; exact hat4)
          clear hown4 hgrow4 hat4 hq2 hBW hp1 HQ3 HX HR3 HG3 HQ1 HBW
          obtain ⟨vF, hvF⟩ : ∃ z, z = vs ++ [Val.mk ky ny sy ly] := ⟨_, rfl⟩
          have hvl2 : vF.length ≤ j2 := by rw [hvF]; simp; omega
          rw [← hvF] at hO4
          have HVF := Lib.hid hvF
          clear hvF
          obtain ⟨A1, cc1, rfl⟩ := hO4.form
          cases many
          case' false =>
            have hm0 : (m == 2) = false := HM2.out
            have hR5 : Hid (R = (if T2.head? = some e ∨ T2.head? = some 44 then (itemsP (valP d) e false f false T2).map fun y => ([Val.mk ky ny sy ly] ++ y.1, y.2) else none).map fun y => (vs ++ y.1, y.2)) := by
              unfold Hid; rw [hR1.out]; unfold oneP; rw [HVP.out]; rfl
            obtain ⟨us, hus⟩ : ∃ us, us = [Val.mk ky ny sy ly] := ⟨_, rfl⟩
            rw [← hus] at hR5 HVF
            have hune : us ≠ [] := by rw [hus]; simp
            clear hus
            obtain ⟨j5, hj5⟩ : ∃ j5, j5 = j2 := ⟨_, rfl⟩
            have hj5s : j5 ≤ s.size := by omega
            have hj5j : j < j5 := by omega
            have HL5 : Hid (s.data.toList.drop j5 = T2) := by rw [hj5]; exact HL2
            rw [← hj5] at hr4 hvl2
            obtain ⟨T5, hT5⟩ : ∃ T5, T5 = T2 := ⟨_, rfl⟩
            rw [← hT5] at HL5 hR5
            clear hT5 hj5 HL2 HVP hR1 HTT hj1s hj1j hjj hj2
            go_wp2_with fail
          case' true =>
            have hm0 : (m == 2) = true := HM2.out
            go_wp2_with fail
            refine (f313_must r s j2 ⟨#[58, 32]⟩ _ hr4 hj2 hs (by decide)).mono ?_
            rintro e5 w5 hm5
            have hm6 : MustR (mustP [58, 32] (s.data.toList.drop j2)) r s (j2 + 2) w4 e5 w5 := hm5
            rw [HL2.out] at hm6
            clear hm5
            cases hmp : mustP [58, 32] T2
            case' none =>
              rw [hmp] at hm6
              have hRn : Hid (R = none) := by unfold Hid; rw [hR1.out]; unfold oneP; rw [HVP.out, Option.bind_some]; dsimp only; rw [if_pos rfl, hmp]; rfl
              obtain ⟨q, rfl, hg5⟩ := hm6
              exact ⟨rfl, LstRd.none hRn.out ⟨q, rfl, hg4.trans hg5⟩⟩
            case' some T3 =>
              rw [hmp] at hm6
              obtain ⟨rfl, hr5, hg5⟩ := hm6
              obtain ⟨hD5, hk5⟩ := must_at hj2 HL2.out hmp
              have hO5 := hO4.gc hg5 hrl
              have hg55 := hg4.trans hg5
              have hLE5 := (unhide HLE).gc hg55 hr8
              have HMP := Lib.hid hmp
              have hk5' : j2 + 2 ≤ s.size := hk5
              have hD5' : s.data.toList.drop (j2 + 2) = T3 := hD5
              have HD5 := Lib.hid hD5'
              clear hmp hD5 hD5' hk5 hr4 hg4 hO4 hg5
              have hBw5 := Nat.le_trans (Nat.le_of_eq HB.out.symm) hg55.size
              go_wp2_with fail
              generalize Value.slice A1 vF.length cc1 = sv2 at hO5 ⊢
              refine ((unhide HVAL) (j2 + 2) _ hr5 hk5' hLE5).mono ?_
              clear hLE5
              rintro e6 w6 hv
              rw [HD5.out] at hv
              cases hvp : valP d T3
              case' none =>
                rw [hvp] at hv
                have hRn : Hid (R = none) := by unfold Hid; rw [hR1.out]; unfold oneP; rw [HVP.out, Option.bind_some]; dsimp only; rw [if_pos rfl, HMP.out, Option.bind_some, hvp]; rfl
                obtain ⟨q, rfl, hg6⟩ := hv
                exact ⟨rfl, LstRd.none hRn.out ⟨q, rfl, hg55.trans hg6⟩⟩
              case' some y =>
                obtain ⟨y2, T5⟩ := y
                rw [hvp] at hv
                obtain ⟨v1, j5, hj5s, hl5, rfl, hv1, hr6, hg6⟩ := hv
                have hlt5 := valP_lt hvp
                have hjj5 := drop_pos hk5' hj5s HD5.out hl5 hlt5
                have hO6 := hO5.gc hg6 hrl
                have hx := valIn hO5 hBw5 hv1
                have hg66 := hg55.trans hg6
                obtain ⟨kz, nz, sz, lz⟩ := y2
                have hx0 := hx
                obtain ⟨_, _, _, _, Az, cz, hve, _⟩ := hx0
                subst hve
                have hp1 : ∀ u ∈ [Value.int .i64 kz, .int .i64 nz, .string sz, .slice Az lz.length cz], u.oneCell' = true := by
                  intro u hu
                  simp only [List.mem_cons, List.mem_nil_iff, or_false] at hu
                  rcases hu with rfl | rfl | rfl | rfl <;> rfl
                obtain ⟨q, hq1, hq2, hq3⟩ := hO6.own
                have hBW : B ≤ w6.heap.size := by have := hg6.size; omega
                obtain ⟨i0, hi0, hz0, hz1, hz2⟩ := info_parts infoVal
                have HVP2 := Lib.hid hvp
                have HL5 := Lib.hid hl5
                have HR6 := hide hr6
                have HG6 := hide hg66
                have HX := hide hx
                have HQ3 := hide hq3
                have HQ1 := Lib.hid hq1
                clear hvp hl5 hv1 hr6 hg6 hO6 hx hg66 hq3 hq1 hO5 hr5 hg55 hlt5 hBw5
                go_wp2_with (at_builtin; refine wpList_append_own_at _ rfl _ _ 36 rfl B 38 i0 zeroV38 4 56 Tryz.underlying36 hi0 hz0 hz1 hz2 rfl (by decide) _ _ _ rfl (World.ownsRow.alloc hq2 _) ⟨w6.heap.size, 0, none⟩ 1 1 [.int .i64 kz, .int .i64 nz, .string sz, .slice Az lz.length cz] rfl rfl ?_ hp1 ?_ ?_ ?_ ?_)
                · intro i u hu
                  rw [add_zero_off, Lib.cell_of_heap (heap_alloc_new w6 _) i]
                  simpa using hu
                · unfold maxLen; omega
                · omega
                · simp; omega
                intro sv3 w7 hown7 hgrow7 _ hat7
                obtain ⟨hO4, hr4, hg4⟩ := LV.step (p := (.int .i64 kz, .int .i64 nz, .string sz, .slice Az lz.length cz)) HB.out HQ1.out hq2 (unhide HQ3) (unhide HX) (unhide HR6) (unhide HG6) hrl hown7 hgrow7 (by rw [World.size_alloc]; exact hat7)
                clear hown7 hgrow7 hat7 hq2 hBW hp1 HQ3 HX HR6 HG6 HQ1
                obtain ⟨vG, hvG⟩ : ∃ z, z = vF ++ [Val.mk kz nz sz lz] := ⟨_, rfl⟩
                have hvl3 : vG.length ≤ j5 := by rw [hvG]; simp; omega
                rw [← hvG] at hO4
                have HVG : Hid (vG = vs ++ [Val.mk ky ny sy ly, Val.mk kz nz sz lz]) := by unfold Hid; rw [hvG, HVF.out]; simp
                clear hvG HVF hvl2
                have hvl2 := hvl3
                have HVF := HVG
                clear HVG hvl3
                obtain ⟨A1, cc1, rfl⟩ := hO4.form
                have hR5 : Hid (R = (if T5.head? = some e ∨ T5.head? = some 44 then (itemsP (valP d) e true f false T5).map fun y => ([Val.mk ky ny sy ly, Val.mk kz nz sz lz] ++ y.1, y.2) else none).map fun y => (vs ++ y.1, y.2)) := by
                  unfold Hid; rw [hR1.out]; unfold oneP; rw [HVP.out, Option.bind_some]; dsimp only; rw [if_pos rfl, HMP.out, Option.bind_some, HVP2.out]; rfl
                obtain ⟨us, hus⟩ : ∃ us, us = [Val.mk ky ny sy ly, Val.mk kz nz sz lz] := ⟨_, rfl⟩
                rw [← hus] at hR5 HVF
                have hune : us ≠ [] := by rw [hus]; simp
                have hj5j : j < j5 := by omega
                clear hus HL2 HVP hR1 HTT hj1s hj1j hjj hj2 HVP2 HMP HD5 hk5' hjj5
                go_wp2_with fail
          all_goals
            refine (f309_any r s j5 _ hr4 T5 HL5.out).mono ?_
            rintro e8 w8 ⟨rfl, h8⟩
            have hr8' := hr4.below h8
            have hg8 := hg4.trans (GC.of_below h8)
            have hO8 := hO4.below h8
            clear h8 hr4 hg4 hO4
            by_cases hnx : T5.head? = some e ∨ T5.head? = some 44
            · have hRs := hR5.out
              rw [if_pos hnx, Option.map_map] at hRs
              have HRS := Lib.hid hRs
              clear hRs
              have hor : ((((hereU T5).toNat : Int) != (e.toNat : Int)) = false) ∨ ((((hereU T5).toNat : Int) != (e.toNat : Int)) = true ∧ (((hereU T5).toNat : Int) != 44) = false) := by
                by_cases h1 : T5.head? = some e
                · left
                  have := (here_eq he0 T5).2 h1
                  simp; omega
                · right
                  have h2 : T5.head? = some 44 := hnx.resolve_left h1
                  have h3 := (here_eq (by decide) T5).2 h2
                  have h4 := fun h => h1 ((here_eq he0 T5).1 h)
                  exact ⟨by simpa using h4, by rw [h3]; rfl⟩
              have hp8 := hr8'.pos
              clear hnx
              rcases hor with o1 | ⟨o1, o2⟩
              all_goals
                go_wp2
                go_roundw
                case rel => exact ⟨j5, f, _, hj5s, hvl2, by omega, hO8, by unfold Hid; rw [HL5.out, HVF.out, isE_app _ _ hune, HRS.out]; congr 1; funext y; simp, hr8', hg8⟩
                case measure => rw [hp8, hpos]; omega
            · have hRn : Hid (R = none) := by
                unfold Hid; rw [hR5.out, if_neg hnx]; rfl
              have o1 : (((hereU T5).toNat : Int) != (e.toNat : Int)) = true := by
                have := fun h => hnx (.inl ((here_eq he0 T5).1 h))
                simpa using this
              have o2 : (((hereU T5).toNat : Int) != 44) = true := by
                have := fun h => hnx (.inr ((here_eq (e := 44) (by decide) T5).1 h))
                simpa using this
              clear hnx
              go_wp2_with fail
              refine (f237_at hr8' hg8).mono ?_
              rintro e9 w9 ⟨q, rfl, hg9⟩
              exact ⟨rfl, LstRd.none hRn.out ⟨q, rfl, hg9⟩⟩
end Go.Proofs.YtijgmloodkbljaaGreatDoor
