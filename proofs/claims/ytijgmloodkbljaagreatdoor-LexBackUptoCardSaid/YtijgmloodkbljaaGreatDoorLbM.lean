import Derived.Test.YtijgmloodkbljaaGreatDoorLbL
namespace Go.Proofs.YtijgmloodkbljaaGreatDoor
open Go Go.RowKit

theorem EF.fin {r A j : Nat} {s : ByteArray} {a0 a1 a2 a3 v0 v1 v2 v3 : Value} {w W : World} {y : Val} {l : List UInt8} {R : Option (Val × List UInt8)} (hE : EF r A (.cells #[a0, a1, a2, a3] 38) w W) (hA : w.heap.size = A) (hr : RdAt r s j W)
    (hv : VR W (fun b => w.heap.size ≤ b ∧ b ≠ A) y (.agg #[v0, v1, v2, v3])) (hR : R = some (y, l)) (hj : j ≤ s.size) (hl : s.data.toList.drop j = l) :
    (set4W W A v0 v1 v2 v3).heap[A]? = some (.cells #[v0, v1, v2, v3] 38) ∧ ValRd R r s w (.returned (.agg #[v0, v1, v2, v3])) (set4W W A v0 v1 v2 v3) := by
  obtain ⟨h1, h2, h3⟩ := hE.set (by omega) v0 v1 v2 v3
  refine ⟨h1, ValRd.some hR hj hl ?_ (hE.rd hr v0 v1 v2 v3) h2⟩
  exact VR.mono (fun b hb _ => hb.1) _ _ (VR.gc hv h3 (fun h => h.2 rfl))
theorem vr_new {r A : Nat} {o : Obj} {w W0 W : World} {y : Val} {v : Value} (hE : EF r A o w W0) (hA : w.heap.size = A) (hv : VR W (fun b => W0.heap.size ≤ b) y v) : VR W (fun b => w.heap.size ≤ b ∧ b ≠ A) y v := by
  have := (Array.getElem?_eq_some_iff.1 hE.2.1).1
  exact VR.mono (fun b hb _ => ⟨by omega, by omega⟩) _ _ hv
theorem vsl_new {r A : Nat} {o : Obj} {w W0 W : World} {l : List Val} {v : Value} (hE : EF r A o w W0) (hA : w.heap.size = A) (hv : VSl W (fun b => W0.heap.size ≤ b) l v) : VSl W (fun b => w.heap.size ≤ b ∧ b ≠ A) l v := by
  have := (Array.getElem?_eq_some_iff.1 hE.2.1).1
  exact VSl.mono hv (fun b hb _ => ⟨by omega, by omega⟩)
theorem strP_len {l b r : List UInt8} (h : strP l = some (b, r)) : b.length ≤ l.length := by
  have h1 := congrArg List.length (strP_inv _ rfl h)
  have h2 : b.length ≤ (b.flatMap qc).length := by
    clear h h1
    induction b with
    | nil => simp
    | cons a b ih =>
      have : 1 ≤ (qc a).length := by unfold qc; split <;> (try split) <;> simp
      simp only [List.flatMap_cons, List.length_append, List.length_cons]
      omega
  simp only [List.length_append, List.length_cons] at h1
  omega
theorem i64_small (n : Int) (h : 0 ≤ n) (h2 : n ≤ 100) : I64n n := ⟨by omega, by omega⟩

set_option maxHeartbeats 16000000 in
set_option maxRecDepth 100000 in
theorem f236_deep (r : Nat) (s : ByteArray) (k : Nat) (w : World) (h : RdAt r s k w) : Calls Tryz.prog 236 #[.pointer (some ⟨r, 0, none⟩), .int .i64 9] w (Gave r w) := by
  have hrl : r < w.heap.size := (Array.getElem?_eq_some_iff.1 h).1
  have hr0 : RdAt r s k (w.alloc (.cells #[.int .i64 0, .int .i64 0, .string ⟨#[]⟩, .slice none 0 0] 38)) := (heap_alloc_old' w _ _ hrl).trans h
  have hg0 : GC r w (w.alloc (.cells #[.int .i64 0, .int .i64 0, .string ⟨#[]⟩, .slice none 0 0] 38)) := GC.of_below ((Below.refl _ _).alloc (Nat.le_refl _) _)
  go_enter Tryz.func236, Tryz.ntmps236
  go_wp2_with fail
  refine (f237_at hr0 hg0).mono ?_
  rintro e w2 ⟨j, rfl, hg⟩
  exact ⟨rfl, j, rfl, hg⟩

set_option maxHeartbeats 32000000 in
set_option maxRecDepth 100000 in
theorem f236_step (d : Nat) (hd : d ≤ 7) (ih : ValOk d) : ValOk (d + 1) := by
  intro r s k w h hk hs hL hr8
  obtain ⟨D, hD⟩ : ∃ D : Int, D = 8 - (d : Int) := ⟨_, rfl⟩
  rw [show (9 : Int) - ((d + 1 : Nat) : Int) = D by omega]
  have hD8 : D ≤ 8 := by omega
  have hD0 : 0 ≤ D := by omega
  have hlist := f315_list d D hD (by omega) ih
  clear ih
  generalize hR : valP (d + 1) (s.data.toList.drop k) = R
  have HR := Lib.hid hR
  clear hR
  have HLIST := hide hlist
  clear hlist hD
  have hrl : r < w.heap.size := (Array.getElem?_eq_some_iff.1 h).1
  have hE0 := EF.start r (.cells #[.int .i64 0, .int .i64 0, .string ⟨#[]⟩, .slice none 0 0] 38) w hrl
  have hr0 : RdAt r s k (w.alloc (.cells #[.int .i64 0, .int .i64 0, .string ⟨#[]⟩, .slice none 0 0] 38)) := (heap_alloc_old' w _ _ hrl).trans h
  have hL0 := hL.alloc (.cells #[.int .i64 0, .int .i64 0, .string ⟨#[]⟩, .slice none 0 0] 38)
  obtain ⟨A, hA⟩ : ∃ A, w.heap.size = A := ⟨_, rfl⟩
  have HA := Lib.hid hA
  obtain ⟨L, hLL⟩ : ∃ L, s.data.toList.drop k = L := ⟨_, rfl⟩
  have h309 := f309_any r s k _ hr0 L hLL
  rw [hLL] at HR
  have HK := Lib.hid hLL
  rw [hA] at hE0
  clear hLL hL h
  go_enter Tryz.func236, Tryz.ntmps236
  go_wp2_with fail
  clear hA
  refine h309.mono ?_
  clear h309
  rintro e w1 ⟨rfl, h1⟩
  have hr1 := hr0.below h1
  have hE1 := hE0.below h1
  have hL1 := hL0.ret h1
  clear h1 hr0 hE0 hL0
  obtain ⟨⟨z0, z1, z2, z3⟩, y0, y1, y2, y3⟩ := four_of hE1.2.1
  rcases L with _ | ⟨c, x⟩
  · -- the text ends
    have hRn : Hid (R = none) := by unfold Hid; rw [← HR.out]; rfl
    have e0 : ((hereU []).toNat : Int) = 0 := rfl
    have hd0 : digB 0 = false := by decide
    rw [e0]
    go_wp2_with fail
    refine (f310_digit _ _).mono ?_
    rintro e w4 ⟨rfl, rfl⟩
    rw [hd0]
    go_wp2_with fail
    refine (f237_at hr1 hE1.1).mono ?_
    rintro e w5 ⟨q, rfl, hg5⟩
    exact ⟨rfl, ValRd.none hRn.out ⟨q, rfl, hg5⟩⟩
  have e0 : hereU (c :: x) = c := rfl
  rw [e0]
  clear e0
  by_cases hnum : c = 45 ∨ digU c = true
  · -- a number
    have hRx : Hid (R = (numP (c :: x)).map fun y => (vInt y.1, y.2)) := by unfold Hid; rw [← HR.out, valP, if_pos hnum]
    have hor : ((c.toNat : Int) == 45) = true ∨ (((c.toNat : Int) == 45) = false ∧ digB c.toNat = true) := by
      rcases hnum with rfl | hd
      · exact .inl rfl
      · by_cases h45 : c = 45
        · rw [h45]; exact .inl rfl
        · refine .inr ⟨?_, by rw [digU_B, hd]⟩
          simp only [beq_eq_false_iff_ne, ne_eq]; intro h; exact h45 (UInt8.toNat_inj.1 (by simp; omega))
    clear hnum HR
    rcases hor with o1 | ⟨o1, o2⟩
    case' inl => go_wp2_with fail
    case' inr =>
      go_wp2_with fail
      refine (f310_digit _ _).mono ?_
      rintro e w4 ⟨rfl, rfl⟩
      rw [o2]
      go_wp2_with fail
    all_goals
      refine (f311_number r s k w1 hr1 hk hs hL1 hr8).mono ?_
      rintro e w2 hn
      rw [HK.out] at hn
      cases hnm : numP (c :: x) with
      | none =>
        rw [hnm] at hn
        have hRn : Hid (R = none) := by unfold Hid; rw [hRx.out, hnm]; rfl
        obtain ⟨q, rfl, hg2⟩ := hn
        exact ⟨rfl, ValRd.none hRn.out ⟨q, rfl, hE1.1.trans hg2⟩⟩
      | some y =>
        obtain ⟨n, l2⟩ := y
        rw [hnm] at hn
        obtain ⟨j, hj, hjl, rfl, hr2, hg2⟩ := hn
        have hRs : Hid (R = some (vInt n, l2)) := by unfold Hid; rw [hRx.out, hnm]; rfl
        have hni := (numP_inv hnm).2
        have hE2 := hE1.gc hg2
        have HJ := Lib.hid hjl
        clear hnm hjl hg2 hE1 hL1 hr1 z0 z1 z2 z3 y0 y1 y2 y3
        go_wp2_with fail
        refine (f75_Int n w2).mono ?_
        rintro e w3 ⟨rfl, h3⟩
        have hE3 := hE2.below h3
        have hr3 := hr2.below h3
        obtain ⟨⟨z0, z1, z2, z3⟩, y0, y1, y2, y3⟩ := four_of hE3.2.1
        have hF := EF.fin (v0 := .int .i64 1) (v1 := .int .i64 n) (v2 := .string ⟨#[]⟩) (v3 := .slice none 0 0) hE3 HA.out hr3 (vr_flat 1 n ⟨#[]⟩ w3 _ (i64_small 1 (by decide) (by decide)) hni (by decide)) hRs.out hj HJ.out
        have HF := hide hF
        clear hF hE2 hr2 h3
        go_wp2
        refine bodyPost_ret (results_cell_row rfl _ _ A 38 #[.int .i64 1, .int .i64 n, .string ⟨#[]⟩, .slice none 0 0] (0, 0) _ rfl (unhide HF).1 Tryz.underlying38 rfl (by kernel_rfl)) rfl ?_
        exact (unhide HF).2
  have hc45 : ((c.toNat : Int) == 45) = false := by
    simp only [beq_eq_false_iff_ne, ne_eq]; intro h; exact hnum (.inl (UInt8.toNat_inj.1 (by simp; omega)))
  have hdg : digB c.toNat = false := by
    rw [digU_B]; cases h : digU c
    · rfl
    · exact absurd (.inr h) hnum
  have HNUM := Lib.hid hnum
  clear hnum
  go_wp2_with fail
  refine (f310_digit _ _).mono ?_
  rintro e w4 ⟨rfl, rfl⟩
  rw [hdg]
  by_cases h39 : c = 39
  · -- a string
    subst h39
    have hRx : Hid (R = (strP x).map fun y => (vStr y.1, y.2)) := by unfold Hid; rw [← HR.out, valP, if_neg HNUM.out, if_pos rfl]
    have ec : (((39 : UInt8).toNat : Nat) : Int) = 39 := rfl
    rw [ec]
    clear ec
    go_wp2_with fail
    refine (f312_str r s k w1 hr1 x HK.out hs).mono ?_
    rintro e w2 hn
    cases hnm : strP x with
    | none =>
      rw [hnm] at hn
      have hRn : Hid (R = none) := by unfold Hid; rw [hRx.out, hnm]; rfl
      obtain ⟨q, rfl, hg2⟩ := hn
      exact ⟨rfl, ValRd.none hRn.out ⟨q, rfl, hE1.1.trans hg2⟩⟩
    | some y =>
      obtain ⟨b, l2⟩ := y
      rw [hnm] at hn
      obtain ⟨j, hj, hjl, rfl, hr2, hg2⟩ := hn
      have hRs : Hid (R = some (vStr b, l2)) := by unfold Hid; rw [hRx.out, hnm]; rfl
      have hE2 := hE1.gc hg2
      have hbl : (⟨b.toArray⟩ : ByteArray).size ≤ 1048576 := by
        have e1 := strP_len hnm
        have e2 := congrArg List.length HK.out
        rw [size_arr]
        simp at e2
        omega
      have HJ := Lib.hid hjl
      clear hnm hjl hg2 hE1 hL1 hr1 z0 z1 z2 z3 y0 y1 y2 y3
      go_wp2_with fail
      refine (f76_Str _ w2).mono ?_
      rintro e w3 ⟨rfl, h3⟩
      have hE3 := hE2.below h3
      have hr3 := hr2.below h3
      obtain ⟨⟨z0, z1, z2, z3⟩, y0, y1, y2, y3⟩ := four_of hE3.2.1
      have hF := EF.fin (v0 := .int .i64 2) (v1 := .int .i64 0) (v2 := .string ⟨b.toArray⟩) (v3 := .slice none 0 0) hE3 HA.out hr3 (vr_flat 2 0 ⟨b.toArray⟩ w3 _ (i64_small 2 (by decide) (by decide)) (i64_small 0 (by decide) (by decide)) hbl) hRs.out hj HJ.out
      have HF := hide hF
      clear hF hE2 hr2 h3
      go_wp2
      refine bodyPost_ret (results_cell_row rfl _ _ A 38 #[.int .i64 2, .int .i64 0, .string ⟨b.toArray⟩, .slice none 0 0] (0, 0) _ rfl (unhide HF).1 Tryz.underlying38 rfl (by kernel_rfl)) rfl ?_
      exact (unhide HF).2
  by_cases h116 : c = 116
  · -- true
    subst h116
    have hRx : Hid (R = (mustP [116, 114, 117, 101] (116 :: x)).map fun y => (vBool true, y)) := by
      unfold Hid; rw [← HR.out, valP, if_neg HNUM.out, if_neg (by decide), if_pos rfl]
    have ec : (((116 : UInt8).toNat : Nat) : Int) = 116 := rfl
    rw [ec]
    clear ec
    have hmust := f313_must r s k ⟨#[116, 114, 117, 101]⟩
    go_wp2_with fail
    refine (hmust _ hr1 hk hs (by decide)).mono ?_
    rintro e w2 hm2
    have hm3 : MustR (mustP [116, 114, 117, 101] (s.data.toList.drop k)) r s (k + 4) w1 e w2 := hm2
    rw [HK.out] at hm3
    clear hm2 hmust
    cases hmp : mustP [116, 114, 117, 101] (116 :: x) with
    | none =>
      rw [hmp] at hm3
      have hRn : Hid (R = none) := by unfold Hid; rw [hRx.out, hmp]; rfl
      obtain ⟨q, rfl, hg2⟩ := hm3
      exact ⟨rfl, ValRd.none hRn.out ⟨q, rfl, hE1.1.trans hg2⟩⟩
    | some l2 =>
      rw [hmp] at hm3
      obtain ⟨rfl, hr2, hg2⟩ := hm3
      have hRs : Hid (R = some (vBool true, l2)) := by unfold Hid; rw [hRx.out, hmp]; rfl
      obtain ⟨hD2, hk2⟩ := must_at hk HK.out hmp
      have hk2' : k + 4 ≤ s.size := hk2
      have hD2' : s.data.toList.drop (k + 4) = l2 := hD2
      have HJ := Lib.hid hD2'
      have hE2 := hE1.gc hg2
      clear hmp hD2 hD2' hk2 hg2 hE1 hL1 hr1 z0 z1 z2 z3 y0 y1 y2 y3
      go_wp2_with fail
      refine (f92_Bool true w2).mono ?_
      rintro e w3 ⟨rfl, h3⟩
      have hE3 := hE2.below h3
      have hr3 := hr2.below h3
      obtain ⟨⟨z0, z1, z2, z3⟩, y0, y1, y2, y3⟩ := four_of hE3.2.1
      have hF := EF.fin (v0 := .int .i64 3) (v1 := .int .i64 1) (v2 := .string ⟨#[]⟩) (v3 := .slice none 0 0) hE3 HA.out hr3 (vr_flat 3 1 ⟨#[]⟩ w3 _ (i64_small 3 (by decide) (by decide)) (i64_small 1 (by decide) (by decide)) (by decide)) hRs.out hk2' HJ.out
      have HF := hide hF
      clear hF hE2 hr2 h3
      go_wp2
      refine bodyPost_ret (results_cell_row rfl _ _ A 38 #[.int .i64 3, .int .i64 1, .string ⟨#[]⟩, .slice none 0 0] (0, 0) _ rfl (unhide HF).1 Tryz.underlying38 rfl (by kernel_rfl)) rfl ?_
      exact (unhide HF).2
  by_cases h102 : c = 102
  · -- false
    subst h102
    have hRx : Hid (R = (mustP [102, 97, 108, 115, 101] (102 :: x)).map fun y => (vBool false, y)) := by
      unfold Hid; rw [← HR.out, valP, if_neg HNUM.out, if_neg (by decide), if_neg (by decide), if_pos rfl]
    have ec : (((102 : UInt8).toNat : Nat) : Int) = 102 := rfl
    rw [ec]
    clear ec
    have hmust := f313_must r s k ⟨#[102, 97, 108, 115, 101]⟩
    go_wp2_with fail
    refine (hmust _ hr1 hk hs (by decide)).mono ?_
    rintro e w2 hm2
    have hm3 : MustR (mustP [102, 97, 108, 115, 101] (s.data.toList.drop k)) r s (k + 5) w1 e w2 := hm2
    rw [HK.out] at hm3
    clear hm2 hmust
    cases hmp : mustP [102, 97, 108, 115, 101] (102 :: x) with
    | none =>
      rw [hmp] at hm3
      have hRn : Hid (R = none) := by unfold Hid; rw [hRx.out, hmp]; rfl
      obtain ⟨q, rfl, hg2⟩ := hm3
      exact ⟨rfl, ValRd.none hRn.out ⟨q, rfl, hE1.1.trans hg2⟩⟩
    | some l2 =>
      rw [hmp] at hm3
      obtain ⟨rfl, hr2, hg2⟩ := hm3
      have hRs : Hid (R = some (vBool false, l2)) := by unfold Hid; rw [hRx.out, hmp]; rfl
      obtain ⟨hD2, hk2⟩ := must_at hk HK.out hmp
      have hk2' : k + 5 ≤ s.size := hk2
      have hD2' : s.data.toList.drop (k + 5) = l2 := hD2
      have HJ := Lib.hid hD2'
      have hE2 := hE1.gc hg2
      clear hmp hD2 hD2' hk2 hg2 hE1 hL1 hr1 z0 z1 z2 z3 y0 y1 y2 y3
      go_wp2_with fail
      refine (f92_Bool false w2).mono ?_
      rintro e w3 ⟨rfl, h3⟩
      have hE3 := hE2.below h3
      have hr3 := hr2.below h3
      obtain ⟨⟨z0, z1, z2, z3⟩, y0, y1, y2, y3⟩ := four_of hE3.2.1
      have hF := EF.fin (v0 := .int .i64 3) (v1 := .int .i64 0) (v2 := .string ⟨#[]⟩) (v3 := .slice none 0 0) hE3 HA.out hr3 (vr_flat 3 0 ⟨#[]⟩ w3 _ (i64_small 3 (by decide) (by decide)) (i64_small 0 (by decide) (by decide)) (by decide)) hRs.out hk2' HJ.out
      have HF := hide hF
      clear hF hE2 hr2 h3
      go_wp2
      refine bodyPost_ret (results_cell_row rfl _ _ A 38 #[.int .i64 3, .int .i64 0, .string ⟨#[]⟩, .slice none 0 0] (0, 0) _ rfl (unhide HF).1 Tryz.underlying38 rfl (by kernel_rfl)) rfl ?_
      exact (unhide HF).2
  by_cases h118 : c = 118
  · subst h118
    have hRx : Hid (R = elemP 6 x) := by
      unfold Hid; rw [← HR.out, valP, if_neg HNUM.out, if_neg (by decide), if_neg (by decide), if_neg (by decide), if_pos rfl]
    have ec : (((118 : UInt8).toNat : Nat) : Int) = 118 := rfl
    rw [ec]
    clear ec
    go_wp2_with fail
    refine (f314_element r s k 6 w1 hr1 _ x HK.out hs hL1 hr8).mono ?_
    rintro e w2 hn
    cases hnm : elemP 6 x with
    | none =>
      rw [hnm] at hn
      have hRn : Hid (R = none) := by unfold Hid; rw [hRx.out, hnm]
      obtain ⟨q, rfl, hg2⟩ := hn
      exact ⟨rfl, ValRd.none hRn.out ⟨q, rfl, hE1.1.trans hg2⟩⟩
    | some y =>
      obtain ⟨y, l2⟩ := y
      rw [hnm] at hn
      obtain ⟨n, rfl, _, hni⟩ := elemP_inv hnm
      obtain ⟨j, hj, hjl, hve, hr2, hg2⟩ := hn
      obtain rfl : e = .returned (.agg #[.int .i64 6, .int .i64 n, .string ⟨#[]⟩, .slice none 0 0]) := hve
      have hRs : Hid (R = some (.mk 6 n ⟨#[]⟩ [], l2)) := by unfold Hid; rw [hRx.out, hnm]
      have hE2 := hE1.gc hg2
      have HJ := Lib.hid hjl
      clear hnm hjl hg2 hE1 hL1 hr1 z0 z1 z2 z3 y0 y1 y2 y3
      obtain ⟨⟨z0, z1, z2, z3⟩, y0, y1, y2, y3⟩ := four_of hE2.2.1
      have hF := EF.fin (v0 := .int .i64 6) (v1 := .int .i64 n) (v2 := .string ⟨#[]⟩) (v3 := .slice none 0 0) hE2 HA.out hr2 (vr_flat 6 n ⟨#[]⟩ w2 _ (i64_small 6 (by decide) (by decide)) hni (by decide)) hRs.out hj HJ.out
      have HF := hide hF
      clear hF hE2 hr2
      go_wp2
      refine bodyPost_ret (results_cell_row rfl _ _ A 38 #[.int .i64 6, .int .i64 n, .string ⟨#[]⟩, .slice none 0 0] (0, 0) _ rfl (unhide HF).1 Tryz.underlying38 rfl (by kernel_rfl)) rfl ?_
      exact (unhide HF).2
  by_cases h101 : c = 101
  · subst h101
    have hRx : Hid (R = elemP 7 x) := by
      unfold Hid; rw [← HR.out, valP, if_neg HNUM.out, if_neg (by decide), if_neg (by decide), if_neg (by decide), if_neg (by decide), if_pos rfl]
    have ec : (((101 : UInt8).toNat : Nat) : Int) = 101 := rfl
    rw [ec]
    clear ec
    go_wp2_with fail
    refine (f314_element r s k 7 w1 hr1 _ x HK.out hs hL1 hr8).mono ?_
    rintro e w2 hn
    cases hnm : elemP 7 x with
    | none =>
      rw [hnm] at hn
      have hRn : Hid (R = none) := by unfold Hid; rw [hRx.out, hnm]
      obtain ⟨q, rfl, hg2⟩ := hn
      exact ⟨rfl, ValRd.none hRn.out ⟨q, rfl, hE1.1.trans hg2⟩⟩
    | some y =>
      obtain ⟨y, l2⟩ := y
      rw [hnm] at hn
      obtain ⟨n, rfl, _, hni⟩ := elemP_inv hnm
      obtain ⟨j, hj, hjl, hve, hr2, hg2⟩ := hn
      obtain rfl : e = .returned (.agg #[.int .i64 7, .int .i64 n, .string ⟨#[]⟩, .slice none 0 0]) := hve
      have hRs : Hid (R = some (.mk 7 n ⟨#[]⟩ [], l2)) := by unfold Hid; rw [hRx.out, hnm]
      have hE2 := hE1.gc hg2
      have HJ := Lib.hid hjl
      clear hnm hjl hg2 hE1 hL1 hr1 z0 z1 z2 z3 y0 y1 y2 y3
      obtain ⟨⟨z0, z1, z2, z3⟩, y0, y1, y2, y3⟩ := four_of hE2.2.1
      have hF := EF.fin (v0 := .int .i64 7) (v1 := .int .i64 n) (v2 := .string ⟨#[]⟩) (v3 := .slice none 0 0) hE2 HA.out hr2 (vr_flat 7 n ⟨#[]⟩ w2 _ (i64_small 7 (by decide) (by decide)) hni (by decide)) hRs.out hj HJ.out
      have HF := hide hF
      clear hF hE2 hr2
      go_wp2
      refine bodyPost_ret (results_cell_row rfl _ _ A 38 #[.int .i64 7, .int .i64 n, .string ⟨#[]⟩, .slice none 0 0] (0, 0) _ rfl (unhide HF).1 Tryz.underlying38 rfl (by kernel_rfl)) rfl ?_
      exact (unhide HF).2
  by_cases h91 : c = 91
  · subst h91
    have hRx : Hid (R = (itemsP (valP d) 93 false (x.length + 1) true x).map fun y => (.mk 4 0 ⟨#[]⟩ y.1, y.2)) := by
      unfold Hid; rw [← HR.out, valP, if_neg HNUM.out, if_neg (by decide), if_neg (by decide), if_neg (by decide), if_neg (by decide), if_neg (by decide), if_pos rfl]; rfl
    have ec : (((91 : UInt8).toNat : Nat) : Int) = 91 := rfl
    rw [ec]
    clear ec
    go_wp2_with fail
    refine ((unhide HLIST) 93 (by decide) (by decide) false 1 rfl r s k w1 hr1 _ x HK.out hs hL1 hr8).mono ?_
    rintro e w2 hn
    cases hnm : itemsP (valP d) 93 false (x.length + 1) true x with
    | none =>
      rw [hnm] at hn
      have hRn : Hid (R = none) := by unfold Hid; rw [hRx.out, hnm]; rfl
      obtain ⟨q, rfl, hg2⟩ := hn
      exact ⟨rfl, ValRd.none hRn.out ⟨q, rfl, hE1.1.trans hg2⟩⟩
    | some y =>
      obtain ⟨ys, l2⟩ := y
      rw [hnm] at hn
      obtain ⟨v, j, hj, hjl, rfl, hv, hr2, hg2⟩ := hn
      have hv2 := vsl_new hE1 HA.out hv
      obtain ⟨AA, cc, hve, _⟩ := hv.form
      subst hve
      have hRs : Hid (R = some (.mk 4 0 ⟨#[]⟩ ys, l2)) := by unfold Hid; rw [hRx.out, hnm]; rfl
      have hE2 := hE1.gc hg2
      have HJ := Lib.hid hjl
      clear hnm hjl hg2 hE1 hL1 hr1 z0 z1 z2 z3 y0 y1 y2 y3 hv
      obtain ⟨⟨z0, z1, z2, z3⟩, y0, y1, y2, y3⟩ := four_of hE2.2.1
      have hF := EF.fin (v0 := .int .i64 4) (v1 := .int .i64 0) (v2 := .string ⟨#[]⟩) (v3 := .slice AA ys.length cc) hE2 HA.out hr2 (VSl.mkVR (s := ⟨#[]⟩) hv2 (i64_small 4 (by decide) (by decide)) (i64_small 0 (by decide) (by decide)) (by decide)) hRs.out hj HJ.out
      have HF := hide hF
      clear hF hE2 hr2 hv2
      go_wp2
      refine bodyPost_ret (results_cell_row rfl _ _ A 38 #[.int .i64 4, .int .i64 0, .string ⟨#[]⟩, .slice AA ys.length cc] (0, 0) _ rfl (unhide HF).1 Tryz.underlying38 rfl (by kernel_rfl)) rfl ?_
      exact (unhide HF).2
  by_cases h123 : c = 123
  · subst h123
    have hRx : Hid (R = (itemsP (valP d) 125 true (x.length + 1) true x).map fun y => (.mk 5 0 ⟨#[]⟩ y.1, y.2)) := by
      unfold Hid; rw [← HR.out, valP, if_neg HNUM.out, if_neg (by decide), if_neg (by decide), if_neg (by decide), if_neg (by decide), if_neg (by decide), if_neg (by decide), if_pos rfl]; rfl
    have ec : (((123 : UInt8).toNat : Nat) : Int) = 123 := rfl
    rw [ec]
    clear ec
    go_wp2_with fail
    refine ((unhide HLIST) 125 (by decide) (by decide) true 2 rfl r s k w1 hr1 _ x HK.out hs hL1 hr8).mono ?_
    rintro e w2 hn
    cases hnm : itemsP (valP d) 125 true (x.length + 1) true x with
    | none =>
      rw [hnm] at hn
      have hRn : Hid (R = none) := by unfold Hid; rw [hRx.out, hnm]; rfl
      obtain ⟨q, rfl, hg2⟩ := hn
      exact ⟨rfl, ValRd.none hRn.out ⟨q, rfl, hE1.1.trans hg2⟩⟩
    | some y =>
      obtain ⟨ys, l2⟩ := y
      rw [hnm] at hn
      obtain ⟨v, j, hj, hjl, rfl, hv, hr2, hg2⟩ := hn
      have hv2 := vsl_new hE1 HA.out hv
      obtain ⟨AA, cc, hve, _⟩ := hv.form
      subst hve
      have hRs : Hid (R = some (.mk 5 0 ⟨#[]⟩ ys, l2)) := by unfold Hid; rw [hRx.out, hnm]; rfl
      have hE2 := hE1.gc hg2
      have HJ := Lib.hid hjl
      clear hnm hjl hg2 hE1 hL1 hr1 z0 z1 z2 z3 y0 y1 y2 y3 hv
      obtain ⟨⟨z0, z1, z2, z3⟩, y0, y1, y2, y3⟩ := four_of hE2.2.1
      have hF := EF.fin (v0 := .int .i64 5) (v1 := .int .i64 0) (v2 := .string ⟨#[]⟩) (v3 := .slice AA ys.length cc) hE2 HA.out hr2 (VSl.mkVR (s := ⟨#[]⟩) hv2 (i64_small 5 (by decide) (by decide)) (i64_small 0 (by decide) (by decide)) (by decide)) hRs.out hj HJ.out
      have HF := hide hF
      clear hF hE2 hr2 hv2
      go_wp2
      refine bodyPost_ret (results_cell_row rfl _ _ A 38 #[.int .i64 5, .int .i64 0, .string ⟨#[]⟩, .slice AA ys.length cc] (0, 0) _ rfl (unhide HF).1 Tryz.underlying38 rfl (by kernel_rfl)) rfl ?_
      exact (unhide HF).2
  -- nothing begins so
  have hRn : Hid (R = none) := by
    unfold Hid; rw [← HR.out, valP, if_neg HNUM.out, if_neg h39, if_neg h116, if_neg h102, if_neg h118, if_neg h101, if_neg h91, if_neg h123]
  have hq : ∀ n : UInt8, c ≠ n → ((c.toNat : Int) == (n.toNat : Int)) = false := by
    intro n hn
    have : ¬ c.toNat = n.toNat := fun e => hn (UInt8.toNat_inj.1 e)
    simp only [beq_eq_false_iff_ne, ne_eq]; omega
  have q39 : ((c.toNat : Int) == 39) = false := hq 39 h39
  have q116 : ((c.toNat : Int) == 116) = false := hq 116 h116
  have q102 : ((c.toNat : Int) == 102) = false := hq 102 h102
  have q118 : ((c.toNat : Int) == 118) = false := hq 118 h118
  have q101 : ((c.toNat : Int) == 101) = false := hq 101 h101
  have q91 : ((c.toNat : Int) == 91) = false := hq 91 h91
  have q123 : ((c.toNat : Int) == 123) = false := hq 123 h123
  clear hq h39 h116 h102 h118 h101 h91 h123
  go_wp2_with fail
  refine (f237_at hr1 hE1.1).mono ?_
  rintro e w5 ⟨q, rfl, hg5⟩
  exact ⟨rfl, ValRd.none hRn.out ⟨q, rfl, hg5⟩⟩
/-- What (*reader).value promises, at every depth. -/
theorem f236_value : ∀ d, d ≤ 8 → ValOk d
  | 0, _ => fun r s k w h _ _ _ _ => (f236_deep r s k w h).mono fun _ _ hg => hg
  | d + 1, h => f236_step d (by omega) (f236_value d (by omega))
end Go.Proofs.YtijgmloodkbljaaGreatDoor

namespace Go.Proofs.YtijgmloodkbljaaGreatDoor
open Go Go.RowKit

/-- The three results have been laid anew: nothing, the place, no. -/
def Caught (b : Nat) (j : Int) (w w' : World) : Prop :=
  w'.heap[b]? = some (.cells #[.int .i64 0, .int .i64 0, .string ⟨#[]⟩, .slice none 0 0] 38) ∧ w'.heap[b + 1]? = some (.cells #[.int .i64 j] 3) ∧ w'.heap[b + 2]? = some (.cells #[.bool false] 4) ∧
    w'.os = w.os ∧ w'.tape = w.tape ∧ w'.output = w.output ∧ w.heap.size ≤ w'.heap.size ∧ ∀ k, k < w.heap.size → k ≠ b → k ≠ b + 1 → k ≠ b + 2 → w'.heap[k]? = w.heap[k]?

theorem run_assert (v : Value) (w : World) : (Instr.typeAssert (.iface 261 v) 20 261 true).run Tryz.prog w = .ok (.tuple #[v, .bool true]) w := by
  simp [Instr.typeAssert, run_underlying Tryz.underlying261, Sem.run_bind, Result.andThen]
set_option maxHeartbeats 8000000 in
set_option maxRecDepth 100000 in
theorem f235_caught (b : Nat) (j x1 : Int) (x2 : Bool) (a0 a1 a2 a3 : Value) (w : World) (h0 : w.heap[b]? = some (.cells #[a0, a1, a2, a3] 38)) (h1 : w.heap[b + 1]? = some (.cells #[.int .i64 x1] 3)) (h2 : w.heap[b + 2]? = some (.cells #[.bool x2] 4)) :
    CallsD Tryz.prog 235 #[.pointer (some ⟨b, 0, none⟩), .pointer (some ⟨b + 1, 0, none⟩), .pointer (some ⟨b + 2, 0, none⟩)] (.panicking [{ v := .iface 261 (.agg #[.int .i64 j]), recovered := false }]) w
      fun e u' w' => e = .returned (.tuple #[]) ∧ u' = .panicking [{ v := .iface 261 (.agg #[.int .i64 j]), recovered := true }] ∧ Caught b j w w' := by
  refine callsD_of_wpS Tryz.func235 rfl fun c₀ cs hu => ?_
  apply wpS_seq
  apply wpS_region
  simp [wpOpsS, go_sem, recoverD, hu, Tryz.ntmps235, Exit.thenS]
  refine wpS_of_wp ?_
  have hbl : b + 2 < w.heap.size := (Array.getElem?_eq_some_iff.1 h2).1
  simp only [Array.replicate_succ, Array.replicate_zero, List.push_toArray, List.append_toArray, List.nil_append, List.cons_append, List.setIfInBounds_toArray, List.set_cons_zero, List.set_cons_succ]
  have q0 : (w.alloc (.cells #[.int .i64 j] 261)).heap[b]? = _ := (heap_alloc_old' w _ b (by omega)).trans h0
  have q1 : (w.alloc (.cells #[.int .i64 j] 261)).heap[b + 1]? = _ := (heap_alloc_old' w _ (b + 1) (by omega)).trans h1
  have q2 : (w.alloc (.cells #[.int .i64 j] 261)).heap[b + 2]? = _ := (heap_alloc_old' w _ (b + 2) (by omega)).trans h2
  have qn := heap_alloc_new w (.cells #[.int .i64 j] 261)
  have hbel : Below w.heap.size w (w.alloc (.cells #[.int .i64 j] 261)) := (Below.refl _ _).alloc (Nat.le_refl _) _
  have hne : Hid (b + 2 < w.heap.size) := hbl
  clear h0 h1 h2 hbl
  obtain ⟨N, hN⟩ : ∃ N, w.heap.size = N := ⟨_, rfl⟩
  rw [hN] at qn
  have hra := fun (v : Value) (w : World) => run_assert v w
  go_wp2
  clear hra
  have HN := Lib.hid hN
  clear hN
  generalize w.alloc (.cells #[.int .i64 j] 261) = W1 at q0 q1 q2 qn hbel ⊢
  obtain ⟨⟨z0, z1, z2, z3⟩, y0, y1, y2, y3⟩ := four_of q0
  have k0 : W1.cell? ⟨b + 1, 0, none⟩ = some (.int .i64 x1) := Lib.cell_of_heap q1 0
  have k1 : W1.frozen? ⟨b + 1, 0, none⟩ = false := Lib.frozen_of_heap q1 0
  have m0 : W1.cell? ⟨b + 2, 0, none⟩ = some (.bool x2) := Lib.cell_of_heap q2 0
  have m1 : W1.frozen? ⟨b + 2, 0, none⟩ = false := Lib.frozen_of_heap q2 0
  have n0 : W1.cell? ⟨N, 0, none⟩ = some (.int .i64 j) := Lib.cell_of_heap qn 0
  have hNb : Hid (N ≠ b ∧ N ≠ b + 1 ∧ N ≠ b + 2) := by unfold Hid; have := hne.out; have := HN.out; omega
  obtain ⟨o1, g1⟩ := set4 (v0 := .int .i64 0) (v1 := .int .i64 0) (v2 := .string ⟨#[]⟩) (v3 := .slice none 0 0) q0
  have r1 := (g1.block (b + 1) (Array.getElem?_eq_some_iff.1 q1).1 (by simp)).trans q1
  have r2 := (g1.block (b + 2) (Array.getElem?_eq_some_iff.1 q2).1 (by simp)).trans q2
  obtain ⟨o2, g2⟩ := setCell_block _ (b + 1) 0 (.int .i64 j) _ _ r1
  have s0 := (g2.block b (Array.getElem?_eq_some_iff.1 o1).1 (by simp)).trans o1
  have s2 := (g2.block (b + 2) (Array.getElem?_eq_some_iff.1 r2).1 (by simp)).trans r2
  obtain ⟨o3, g3⟩ := setCell_block _ (b + 2) 0 (.bool false) _ _ s2
  have t0 := (g3.block b (Array.getElem?_eq_some_iff.1 s0).1 (by simp)).trans s0
  have t1 := (g3.block (b + 1) (Array.getElem?_eq_some_iff.1 o2).1 (by simp)).trans o2
  have hfin : Caught b j w (((set4W W1 b (.int .i64 0) (.int .i64 0) (.string ⟨#[]⟩) (.slice none 0 0)).setCell ⟨b + 1, 0, none⟩ (.int .i64 j)).setCell ⟨b + 2, 0, none⟩ (.bool false)) := by
    have b1 := g1.size
    have b2 := g2.size
    have b3 := g3.size
    have b4 := hbel.size
    exact ⟨t0, t1, o3, g3.os.trans (g2.os.trans (g1.os.trans hbel.os)), g3.tape.trans (g2.tape.trans (g1.tape.trans hbel.tape)), g3.output.trans (g2.output.trans (g1.output.trans hbel.output)), Nat.le_trans b4 (Nat.le_trans b1 (Nat.le_trans b2 b3)),
      fun k hk k0 k1 k2 => (g3.block k (Nat.lt_of_lt_of_le hk (Nat.le_trans b4 (Nat.le_trans b1 b2))) (by simp; omega)).trans ((g2.block k (Nat.lt_of_lt_of_le hk (Nat.le_trans b4 b1)) (by simp; omega)).trans ((g1.block k (by omega) (by simp; omega)).trans (hbel.block k hk)))⟩
  have HF := hide hfin
  clear hfin t0 t1 o3 g3 s0 s2 o2 g2 r1 r2 o1 g1 q0 q1 q2 qn hbel
  have hNb2 := hNb.out
  obtain ⟨nb0, nb1, nb2⟩ := hNb2
  go_region
  have hfin := unhide HF
  generalize ((set4W W1 b (.int .i64 0) (.int .i64 0) (.string ⟨#[]⟩) (.slice none 0 0)).setCell ⟨b + 1, 0, none⟩ (.int .i64 j)).setCell ⟨b + 2, 0, none⟩ (.bool false) = W9 at hfin ⊢
  have hfin2 : Caught b j w W9.drew := hfin
  refine (show bodyPostS Tryz.prog Tryz.f235 c₀ cs _ Exit.normal _ _ W9.drew from ?_)
  cases c₀
  simp_all [bodyPostS, results, Tryz.f235]
end Go.Proofs.YtijgmloodkbljaaGreatDoor

namespace Go.Proofs.YtijgmloodkbljaaGreatDoor
open Go Go.RowKit

def ReadP (x : Option (Val × List UInt8)) (w : World) (e : Ending) (w' : World) : Prop :=
  match x with
  | some (y, []) => ∃ v, e = .returned (.tuple #[v, .int .i64 0, .bool true]) ∧ VR w' (fun b => w.heap.size ≤ b) y v ∧ Below w.heap.size w w'
  | _ => ∃ j : Int, e = .returned (.tuple #[v38, .int .i64 j, .bool false]) ∧ Below w.heap.size w w'
def badR (x : Option (Val × List UInt8)) : Prop := x = none ∨ ∃ y c t, x = some (y, c :: t)
theorem ReadP.bad {x : Option (Val × List UInt8)} {w w' : World} {e : Ending} (hx : badR x) (j : Int) (he : e = .returned (.tuple #[v38, .int .i64 j, .bool false])) (hb : Below w.heap.size w w') : ReadP x w e w' := by
  rcases hx with rfl | ⟨y, c, t, rfl⟩
  · exact ⟨j, he, hb⟩
  · exact ⟨j, he, hb⟩
theorem ReadP.good {x : Option (Val × List UInt8)} {w w' : World} {e : Ending} {y : Val} (hx : x = some (y, [])) {v : Value} (he : e = .returned (.tuple #[v, .int .i64 0, .bool true])) (hv : VR w' (fun b => w.heap.size ≤ b) y v) (hb : Below w.heap.size w w') : ReadP x w e w' := by
  subst hx; exact ⟨v, he, hv, hb⟩
theorem caught_below {b : Nat} {x : Int} {w W W' : World} (hb : w.heap.size = b) (hg : ∀ k, k < b → W.heap[k]? = w.heap[k]?) (ho : W.os = w.os ∧ W.tape = w.tape ∧ W.output = w.output) (hs : b + 3 ≤ W.heap.size) (h : Caught b x W W') : Below w.heap.size w W' := by
  obtain ⟨h0, h1, h2, h3, h4, h5, h6, h7⟩ := h
  exact ⟨h3.trans ho.1, h4.trans ho.2.1, h5.trans ho.2.2, by omega, fun k hk => (h7 k (by omega) (by omega) (by omega) (by omega)).trans (hg k (by omega))⟩

/-- The three results, read out of their cells. -/
theorem read_results (tmps : Array Value) (W : World) (b : Nat) (v0 v1 v2 v3 : Value) (j : Int) (ok : Bool) (hp0 : tmps.getD 2 undef = .pointer (some ⟨b, 0, none⟩)) (hp1 : tmps.getD 3 undef = .pointer (some ⟨b + 1, 0, none⟩)) (hp2 : tmps.getD 4 undef = .pointer (some ⟨b + 2, 0, none⟩))
    (h0 : W.heap[b]? = some (.cells #[v0, v1, v2, v3] 38)) (h1 : W.heap[b + 1]? = some (.cells #[.int .i64 j] 3)) (h2 : W.heap[b + 2]? = some (.cells #[.bool ok] 4)) :
    (results Tryz.f175 tmps).run Tryz.prog W = .ok (.tuple #[.agg #[v0, v1, v2, v3], .int .i64 j, .bool ok]) W := by
  refine results_cell3 rfl _ _ ⟨b, 0, none⟩ ⟨b + 1, 0, none⟩ ⟨b + 2, 0, none⟩ _ _ _ hp0 hp1 hp2 (run_loadVar_row _ b 38 38 _ (0, 0) _ h0 Tryz.underlying38 rfl (by kernel_rfl)) ?_ ?_
  · have c := Lib.cell_of_heap h1 0
    go_simp
  · have c := Lib.cell_of_heap h2 0
    go_simp
set_option maxHeartbeats 8000000 in
set_option maxRecDepth 100000 in
theorem f175_read (s : ByteArray) (w : World) (hs : s.size ≤ 1048576) (hL : LdE w) : Calls Tryz.prog 175 #[.string s] w (ReadP (valP 8 s.data.toList) w) := by
  have hmf : ∀ (fn : Fn) (first cap : Array Value) (w : World), (Instr.makeFunc fn first cap).run Tryz.prog w = .ok (.func fn first cap) w := fun _ _ _ _ => rfl
  generalize hR : valP 8 s.data.toList = R
  have HR := Lib.hid hR
  clear hR
  have HL := hide hL
  have hw8 := hL.laid.size
  clear hL
  go_enter_defers Tryz.func175, Tryz.ntmps175
  go_wp2_with fail
  simp only [Nat.add_assoc, Nat.reduceAdd]
  have hW : rdW s w = rdW s w := rfl
  conv at hW => lhs; unfold rdW
  rw [hW]
  obtain ⟨W0, hW0⟩ : ∃ W0, rdW s w = W0 := ⟨_, rfl⟩
  rw [hW0]
  have q0 : W0.heap[w.heap.size]? = some (.cells #[.int .i64 0, .int .i64 0, .string ⟨#[]⟩, .slice none 0 0] 38) := by rw [← hW0]; exact rdW_row _ _ 0 (by decide)
  have q1 : W0.heap[w.heap.size + 1]? = some (.cells #[.int .i64 0] 3) := by rw [← hW0]; exact rdW_row _ _ 1 (by decide)
  have q2 : W0.heap[w.heap.size + 2]? = some (.cells #[.bool false] 4) := by rw [← hW0]; exact rdW_row _ _ 2 (by decide)
  have q3 : RdAt (w.heap.size + 3) s 0 W0 := by rw [← hW0]; exact rdW_row _ _ 3 (by decide)
  have hsz : W0.heap.size = w.heap.size + 4 := by rw [← hW0, rdW_heap]; simp [rdR]
  have hbw : Below w.heap.size w W0 := by
    rw [← hW0]
    exact ((((Below.refl _ w).alloc (Nat.le_refl _) _).alloc (by simp) _).alloc (by simp; omega) _).alloc (by simp; omega) _
  clear hW hW0
  have hL0 := (unhide HL).ret hbw
  have hval := f236_value 8 (by decide) (w.heap.size + 3) s 0 W0 q3 (by omega) hs hL0 (by omega)
  rw [List.drop_zero, HR.out] at hval
  have e91 : (9 : Int) - ((8 : Nat) : Int) = 1 := rfl
  rw [e91] at hval
  refine hval.mono ?_
  clear hval hL0 e91
  generalize hb : w.heap.size = b at *
  have HB := Lib.hid hb
  clear hb
  cases hRR : R with
  | none =>
    subst hRR
    rintro e w1 ⟨j, rfl, hg1⟩
    have p0 := (hg1.block b (by omega) (by simp)).trans q0
    have p1 := (hg1.block (b + 1) (by omega) (by simp)).trans q1
    have p2 := (hg1.block (b + 2) (by omega) (by simp)).trans q2
    have hs1 := hg1.size
    refine leaves_cons (f := 235) (args := #[.pointer (some ⟨b, 0, none⟩), .pointer (some ⟨b + 1, 0, none⟩), .pointer (some ⟨b + 2, 0, none⟩)]) (by simp) (by simp [go_sem]) ?_
    refine (f235_caught b j 0 false _ _ _ _ _ p0 p1 p2).mono ?_
    rintro e u' w'' ⟨rfl, rfl, hc⟩
    have hfin : Below w.heap.size w w'' := caught_below HB.out (fun k hk => (hg1.block k (by omega) (by simp; omega)).trans (hbw.block k hk)) ⟨hg1.os.trans hbw.os, hg1.tape.trans hbw.tape, hg1.output.trans hbw.output⟩ (by omega) hc
    obtain ⟨c0, c1, c2, _⟩ := hc
    refine ⟨.tuple #[v38, .int .i64 j, .bool false], ?_, ReadP.bad (.inl rfl) j rfl hfin⟩
    exact read_results _ _ b _ _ _ _ j false rfl rfl rfl c0 c1 c2
  | some y =>
    obtain ⟨y, l2⟩ := y
    subst hRR
    rintro e w1 ⟨v, j, hj, hjl, rfl, hv, hr1, hg1⟩
    have p0 := (hg1.block b (by omega) (by simp)).trans q0
    have p1 := (hg1.block (b + 1) (by omega) (by simp)).trans q1
    have p2 := (hg1.block (b + 2) (by omega) (by simp)).trans q2
    have hs1 := hg1.size
    obtain ⟨ky, ny, sy, ly⟩ := y
    have hv0 := hv
    obtain ⟨_, _, _, _, AA, cc, hve, _⟩ := hv0
    subst hve
    have hv2 : VR w1 (fun k => b ≤ k ∧ k ≠ b ∧ k ≠ b + 1 ∧ k ≠ b + 2) (.mk ky ny sy ly) (.agg #[.int .i64 ky, .int .i64 ny, .string sy, .slice AA ly.length cc]) := VR.mono (fun k hk _ => by omega) _ _ hv
    obtain ⟨⟨z0, z1, z2, z3⟩, y0, y1, y2, y3⟩ := four_of p0
    have k1 : w1.cell? ⟨b + 3, 1, none⟩ = some (.int .i64 j) := Lib.cell_of_heap hr1 1
    have e1 : w1.cell? ⟨b + 1, 0, none⟩ = some (.int .i64 0) := Lib.cell_of_heap p1 0
    have f1 : w1.frozen? ⟨b + 1, 0, none⟩ = false := Lib.frozen_of_heap p1 0
    have e2 : w1.cell? ⟨b + 2, 0, none⟩ = some (.bool false) := Lib.cell_of_heap p2 0
    have f2 : w1.frozen? ⟨b + 2, 0, none⟩ = false := Lib.frozen_of_heap p2 0
    obtain ⟨hA, gA⟩ := set4 (v0 := .int .i64 ky) (v1 := .int .i64 ny) (v2 := .string sy) (v3 := .slice AA ly.length cc) p0
    have l1 : b + 1 < w1.heap.size := (Array.getElem?_eq_some_iff.1 p1).1
    have l2' : b + 2 < w1.heap.size := (Array.getElem?_eq_some_iff.1 p2).1
    have hos : w1.os = w.os ∧ w1.tape = w.tape ∧ w1.output = w.output := ⟨hg1.os.trans hbw.os, hg1.tape.trans hbw.tape, hg1.output.trans hbw.output⟩
    have hold : ∀ k, k < b → w1.heap[k]? = w.heap[k]? := fun k hk => (hg1.block k (by omega) (by simp; omega)).trans (hbw.block k hk)
    have HV2 := hide hv2
    have HOS := hide hos
    have HOLD := hide hold
    have HJ := Lib.hid hjl
    clear hv hv2 hos hold hjl hg1 hbw q0 q1 q2 q3
    rcases l2 with _ | ⟨c, t⟩
    · -- nothing is left
      have hje : j = s.size := by
        have := congrArg List.length HJ.out
        simp at this
        omega
      have hjd : decide (j < s.size) = false := by simp; omega
      have hjd2 : decide ((j : Int) < (s.size : Int)) = false := by simp; omega
      clear hje
      obtain ⟨hB, gB⟩ := set4 (v0 := .int .i64 ky) (v1 := .int .i64 ny) (v2 := .string sy) (v3 := .slice AA ly.length cc) hA
      have gAB := GC.trans (c := b) gA gB
      have m1 := (gAB.block (b + 1) l1 (by simp)).trans p1
      have m2 := (gAB.block (b + 2) l2' (by simp)).trans p2
      have hv3 : VR _ (fun k => b ≤ k ∧ k ≠ b ∧ k ≠ b + 1 ∧ k ≠ b + 2) _ _ := VR.gc (unhide HV2) gAB (fun h => h.2.1 rfl)
      obtain ⟨n1, g1⟩ := setCell_block _ (b + 1) 0 (.int .i64 0) _ _ m1
      have n2 := (g1.block (b + 2) (Array.getElem?_eq_some_iff.1 m2).1 (by simp)).trans m2
      have n0 := (g1.block b (Array.getElem?_eq_some_iff.1 hB).1 (by simp)).trans hB
      have hv4 : VR _ (fun k => b ≤ k ∧ k ≠ b ∧ k ≠ b + 1 ∧ k ≠ b + 2) _ _ := VR.gc hv3 g1 (fun h => h.2.2.1 rfl)
      obtain ⟨o2, g2⟩ := setCell_block _ (b + 2) 0 (.bool true) _ _ n2
      have o0 := (g2.block b (Array.getElem?_eq_some_iff.1 n0).1 (by simp)).trans n0
      have o1 := (g2.block (b + 1) (Array.getElem?_eq_some_iff.1 n1).1 (by simp)).trans n1
      have hv5 : VR _ (fun k => b ≤ k ∧ k ≠ b ∧ k ≠ b + 1 ∧ k ≠ b + 2) _ _ := VR.gc hv4 g2 (fun h => h.2.2.2 rfl)
      have hv6 := VR.mono (S' := fun k => w.heap.size ≤ k) (fun k hk _ => by have := HB.out; omega) _ _ hv5
      have hfin : Below w.heap.size w ((((set4W (set4W w1 b (.int .i64 ky) (.int .i64 ny) (.string sy) (.slice AA ly.length cc)) b (.int .i64 ky) (.int .i64 ny) (.string sy) (.slice AA ly.length cc))).setCell ⟨b + 1, 0, none⟩ (.int .i64 0)).setCell ⟨b + 2, 0, none⟩ (.bool true)) := by
        have hos := unhide HOS
        have hold := unhide HOLD
        exact ⟨g2.os.trans (g1.os.trans (gAB.os.trans hos.1)), g2.tape.trans (g1.tape.trans (gAB.tape.trans hos.2.1)), g2.output.trans (g1.output.trans (gAB.output.trans hos.2.2)), Nat.le_trans (by have := HB.out; omega) (Nat.le_trans gAB.size (Nat.le_trans g1.size g2.size)),
          fun k hk => by
            have hkb : k < b := by have := HB.out; omega
            have a1 := gAB.size
            have a2 := g1.size
            exact (g2.block k (Nat.lt_of_lt_of_le (show k < w1.heap.size by omega) (Nat.le_trans a1 a2)) (by simp; omega)).trans ((g1.block k (Nat.lt_of_lt_of_le (show k < w1.heap.size by omega) a1) (by simp; omega)).trans ((gAB.block k (by omega) (by simp; omega)).trans (hold k hkb)))⟩
      have HF := hide hfin
      have HV6 := hide hv6
      have O0 := hide o0
      have O1 := hide o1
      have O2 := hide o2
      clear hfin hv6 o0 o1 o2 hv3 hv4 hv5 g1 g2 n1 n2 n0 m1 m2 gAB gA gB hA hB p0 p1 p2 hr1 HV2 HOS HOLD
      go_wp2
      refine leaves_cons (f := 235) (args := #[.pointer (some ⟨b, 0, none⟩), .pointer (some ⟨b + 1, 0, none⟩), .pointer (some ⟨b + 2, 0, none⟩)]) (by simp) (by simp [go_sem]) ?_
      refine (f235_idle ⟨b, 0, none⟩ ⟨b + 1, 0, none⟩ ⟨b + 2, 0, none⟩ _).mono ?_
      rintro e u' w'' ⟨rfl, rfl, rfl⟩
      refine ⟨.tuple #[.agg #[.int .i64 ky, .int .i64 ny, .string sy, .slice AA ly.length cc], .int .i64 0, .bool true], ?_, ReadP.good rfl rfl (unhide HV6) (unhide HF)⟩
      exact read_results _ _ b _ _ _ _ 0 true rfl rfl rfl (unhide O0) (unhide O1) (unhide O2)
    · -- something is left
      have hjs : j < s.size := by
        have := congrArg List.length HJ.out
        simp at this
        omega
      have m1 := (gA.block (b + 1) l1 (by simp)).trans p1
      have m2 := (gA.block (b + 2) l2' (by simp)).trans p2
      have m3 : RdAt (b + 3) s j _ := (gA.block (b + 3) (Array.getElem?_eq_some_iff.1 hr1).1 (by simp)).trans hr1
      have HA := hide hA
      have GA := hide gA
      have M1 := hide m1
      have M2 := hide m2
      have M3 := hide m3
      have hjs' : (j : Int) < (s.size : Int) := by omega
      clear hA gA m1 m2 m3 p0 p1 p2 hr1 HV2
      go_wp2_with fail
      refine (f237_fail (b + 3) s j _ (unhide M3)).mono ?_
      rintro e w2 ⟨q, rfl, hg2⟩
      have gA := unhide GA
      have r0 := (hg2.block b (Array.getElem?_eq_some_iff.1 (unhide HA)).1 (by simp)).trans (unhide HA)
      have r1 := (hg2.block (b + 1) (Array.getElem?_eq_some_iff.1 (unhide M1)).1 (by simp)).trans (unhide M1)
      have r2 := (hg2.block (b + 2) (Array.getElem?_eq_some_iff.1 (unhide M2)).1 (by simp)).trans (unhide M2)
      have a1 := gA.size
      have a2 := hg2.size
      refine leaves_cons (f := 235) (args := #[.pointer (some ⟨b, 0, none⟩), .pointer (some ⟨b + 1, 0, none⟩), .pointer (some ⟨b + 2, 0, none⟩)]) (by simp) (by simp [go_sem]) ?_
      refine (f235_caught b q 0 false _ _ _ _ _ r0 r1 r2).mono ?_
      rintro e u' w'' ⟨rfl, rfl, hc⟩
      have hos := unhide HOS
      have hold := unhide HOLD
      have hfin : Below w.heap.size w w'' := caught_below HB.out (fun k hk => (hg2.block k (Nat.lt_of_lt_of_le (show k < w1.heap.size by omega) a1) (by simp; omega)).trans ((gA.block k (by omega) (by simp; omega)).trans (hold k hk)))
        ⟨hg2.os.trans (gA.os.trans hos.1), hg2.tape.trans (gA.tape.trans hos.2.1), hg2.output.trans (gA.output.trans hos.2.2)⟩ (Nat.le_trans (by omega) (Nat.le_trans a1 a2)) hc
      obtain ⟨c0, c1, c2, _⟩ := hc
      refine ⟨.tuple #[v38, .int .i64 q, .bool false], ?_, ReadP.bad (.inr ⟨_, _, _, rfl⟩) q rfl hfin⟩
      exact read_results _ _ b _ _ _ _ q false rfl rfl rfl c0 c1 c2
end Go.Proofs.YtijgmloodkbljaaGreatDoor
