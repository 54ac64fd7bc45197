import Derived.Test.YtijgmloodkbljaaGreatDoorLbH
import Derived.Laws.BitsAllLaws
import Derived.Lib.ParseIntB
import Derived.Test.YtijgmloodkbljaaGreatDoorLbF
import Derived.Lib.LaidU8
namespace Go.Proofs.YtijgmloodkbljaaGreatDoor
open Go Go.RowKit

/-- The call returns v, and the reader stands where l is left. -/
def RetD (v : Value) (r : Nat) (s : ByteArray) (l : List UInt8) (w : World) (e : Ending) (w' : World) : Prop := ∃ j, j ≤ s.size ∧ s.data.toList.drop j = l ∧ RetR v r s j w e w'
def EscR (x : Option (UInt8 × List UInt8)) (r : Nat) (s : ByteArray) (w : World) (e : Ending) (w' : World) : Prop :=
  match x with | some y => RetD (.int .u8 y.1.toNat) r s y.2 w e w' | none => Gave r w e w'
theorem EscR.none {r : Nat} {s : ByteArray} {w : World} {x : Option (UInt8 × List UInt8)} (hx : x = none) {e : Ending} {w' : World} (h : Gave r w e w') : EscR x r s w e w' := by subst hx; exact h
theorem EscR.some {r : Nat} {s : ByteArray} {w : World} {x : Option (UInt8 × List UInt8)} {c : UInt8} {l : List UInt8} (hx : x = some (c, l)) {v : Value} (hv : v = .int .u8 c.toNat) {j : Nat} (hj : j ≤ s.size) (hl : s.data.toList.drop j = l) {w' : World} (h1 : RdAt r s j w') (h2 : GC r w w') : EscR x r s w (.returned v) w' := by
  subst hx hv; exact ⟨j, hj, hl, rfl, h1, h2⟩

def ixH (c : UInt8) : Int := match hexV c with | some h => (h : Int) | none => -1
theorem indexByte_hex (c : UInt8) : Lib.indexByte [48, 49, 50, 51, 52, 53, 54, 55, 56, 57, 97, 98, 99, 100, 101, 102] c = ixH c := by
  obtain ⟨⟨k, hk⟩⟩ := c
  have : ∀ k : Fin 256, Lib.indexByte [48, 49, 50, 51, 52, 53, 54, 55, 56, 57, 97, 98, 99, 100, 101, 102] ⟨⟨k⟩⟩ = ixH ⟨⟨k⟩⟩ := by decide +kernel
  exact this ⟨k, hk⟩
theorem f157_hex (n : Int) (c : UInt8) (hn : n = c.toNat) (w : World) : Calls Tryz.prog 157 #[.string ⟨#[48, 49, 50, 51, 52, 53, 54, 55, 56, 57, 97, 98, 99, 100, 101, 102]⟩, .int .u8 n] w (Same (.int .i64 (ixH c)) w) := by
  subst hn
  refine (Tryz.strings_IndexByte _ _ _).mono ?_
  rintro e w' ⟨rfl, rfl⟩
  have e1 : (c.toNat : Int).toNat.toUInt8 = c := by simp
  rw [e1]
  exact same_int (indexByte_hex c)
theorem ixH_some {c : UInt8} {h : Nat} (e : hexV c = some h) : ixH c = (h : Int) := by unfold ixH; rw [e]
theorem ixH_none {c : UInt8} (e : hexV c = none) : ixH c = -1 := by unfold ixH; rw [e]
theorem hex_byte (h o : Nat) (h1 : h < 16) (h2 : o < 16) : bits .or .i64 ((h : Int) * 16) (o : Int) % 256 = ((16 * h + o).toUInt8.toNat : Int) := by
  have : ∀ (a b : Fin 16), bits .or .i64 ((a.1 : Int) * 16) (b.1 : Int) % 256 = ((16 * a.1 + b.1).toUInt8.toNat : Int) := by decide +kernel
  exact this ⟨h, h1⟩ ⟨o, h2⟩
theorem f237_at {r : Nat} {s : ByteArray} {k : Nat} {w0 w : World} (h : RdAt r s k w) (hg : GC r w0 w) : Calls Tryz.prog 237 #[.pointer (some ⟨r, 0, none⟩)] w (Gave r w0) :=
  (f237_fail r s k w h).mono fun _ _ hh => hh.trans hg
set_option maxHeartbeats 4000000 in
set_option maxRecDepth 100000 in
theorem f349_escaped (r : Nat) (s : ByteArray) (k : Nat) (w : World) (h : RdAt r s k w) (hk : k ≤ s.size) (hs : s.size ≤ 1048576) :
    Calls Tryz.prog 349 #[.pointer (some ⟨r, 0, none⟩)] w (EscR (escP (s.data.toList.drop k)) r s w) := by
  generalize hR : escP (s.data.toList.drop k) = R
  have HR := Lib.hid hR
  clear hR
  have hmust := f313_must r s k ⟨#[120]⟩
  by_cases hlt : k < s.size
  · have hd := Lib.hid (drop_cons s k hlt)
    have hh := f309_in r s k w h hlt
    by_cases hq : s[k] = 39 ∨ s[k] = 92
    · have hRs : R = some (s[k], s.data.toList.drop (k + 1)) := by
        rw [← HR.out, hd.out]; unfold escP; dsimp only; rw [if_pos hq]
      have hor : ((s[k].toNat : Int) == 39) = true ∨ (((s[k].toNat : Int) == 39) = false ∧ ((s[k].toNat : Int) == 92) = true) := by
        rcases hq with e | e
        · rw [e]; exact .inl rfl
        · rw [e]; exact .inr ⟨rfl, rfl⟩
      have HRs := Lib.hid hRs
      clear hRs hq HR hmust
      rcases hor with e1 | ⟨e1, e2⟩
      all_goals
        go_enter Tryz.func349, Tryz.ntmps349
        go_wp2_with fail
        refine hh.mono ?_
        rintro e w1 ⟨rfl, h1⟩
        have hr1 := h.below h1
        have c1 : w1.cell? ⟨r, 1, none⟩ = some (.int .i64 k) := Lib.cell_of_heap hr1 1
        have cf : w1.frozen? ⟨r, 1, none⟩ = false := Lib.frozen_of_heap hr1 1
        obtain ⟨h4, h5⟩ := hr1.set (k + 1)
        have H4 := Lib.hid h4
        have H5 := Lib.hid ((GC.of_below (c := r) h1).trans h5)
        clear h4 h5
        go_wp2
        go_ret
        exact EscR.some HRs.out rfl (by omega) rfl H4.out H5.out
    · have e1 : ((s[k].toNat : Int) == 39) = false := by
        simp only [beq_eq_false_iff_ne, ne_eq]; intro h; exact hq (.inl (UInt8.toNat_inj.1 (by simp; omega)))
      have e2 : ((s[k].toNat : Int) == 92) = false := by
        simp only [beq_eq_false_iff_ne, ne_eq]; intro h; exact hq (.inr (UInt8.toNat_inj.1 (by simp; omega)))
      by_cases hx : s[k] = 120
      · -- an x stands here
        have hm : Hid (mustP [120] (s.data.toList.drop k) = some (s.data.toList.drop (k + 1))) := by
          unfold Hid; rw [hd.out, mustP_step, if_pos hx.symm]
          cases s.data.toList.drop (k + 1) <;> rfl
        have HRR : Hid (R = match s.data.toList.drop (k + 1) with
            | a :: b :: t => match hexV a, hexV b with
              | some h, some o => if (1 < h ∧ h < 7) ∨ (h = 7 ∧ o < 15) then none else some ((16 * h + o).toUInt8, t)
              | _, _ => none
            | _ => none) := by
          unfold Hid; rw [← HR.out, hd.out]; unfold escP; dsimp only; rw [if_neg hq, if_pos hx]
          rfl
        clear HR hq hx
        go_enter Tryz.func349, Tryz.ntmps349
        go_wp2_with fail
        refine hh.mono ?_
        rintro e w1 ⟨rfl, h1⟩
        have hr1 := h.below h1
        have hg1 := GC.of_below (c := r) h1
        clear h1 hh
        go_wp2_with fail
        refine (hmust _ hr1 hk hs (by decide)).mono ?_
        rintro e w2 hm2
        have hm3 : MustR (mustP [120] (s.data.toList.drop k)) r s (k + 1) w1 e w2 := hm2
        rw [hm.out] at hm3
        obtain ⟨rfl, hr2, hg2⟩ := hm3
        replace hg2 := hg1.trans hg2
        clear hm2 hg1 hr1 hmust
        go_wp2_with fail
        obtain ⟨q, hq⟩ : ∃ q, k + 1 = q := ⟨_, rfl⟩
        rw [hq] at hr2 HRR
        have hqs : q ≤ s.size := by omega
        clear hm h hd hk hq
        by_cases h1s : q < s.size
        · have hd1 := Lib.hid (drop_cons s q h1s)
          refine (f309_in r s q _ hr2 h1s).mono ?_
          rintro e w3 ⟨rfl, h3⟩
          have hr3 := hr2.below h3
          have hg3 := hg2.trans (GC.of_below h3)
          clear h3 hg2 hr2
          go_wp2_with fail
          refine (f157_hex _ s[q] rfl _).mono ?_
          rintro e w4 ⟨rfl, rfl⟩
          have hge : decide (s.size ≤ q) = false := by simp; omega
          have c0 : w3.cell? ⟨r, 0, none⟩ = some (.string s) := Lib.cell_of_heap hr3 0
          have c1 : w3.cell? ⟨r, 1, none⟩ = some (.int .i64 q) := Lib.cell_of_heap hr3 1
          have cf : w3.frozen? ⟨r, 1, none⟩ = false := Lib.frozen_of_heap hr3 1
          cases hv : hexV s[q] with
          | none =>
            have hRn : Hid (R = none) := by
              unfold Hid
              rw [HRR.out, hd1.out]
              cases s.data.toList.drop (q + 1) with
              | nil => rfl
              | cons b t => dsimp only; rw [hv]
            rw [ixH_none hv]
            go_wp2
            go_quiet (fail)
            go_wp2_with fail
            generalize hw2 : w3.drewN _ = w4
            have hr4 : RdAt r s q w4 := by rw [← hw2]; exact hr3
            have hg4 : GC r w w4 := by rw [← hw2]; exact hg3.drewN _
            clear hw2
            refine (f237_at hr4 hg4).mono ?_
            rintro e w5 ⟨j, rfl, hg5⟩
            exact ⟨rfl, EscR.none hRn.out ⟨j, rfl, hg5⟩⟩
          | some hi =>
            rw [ixH_some hv]
            have hi16 := (hexD_hexV hv).2
            have HV := Lib.hid hv
            clear hv
            by_cases hbad : 1 < hi ∧ hi < 7
            · obtain ⟨hb1, hb2⟩ := hbad
              have hRn : Hid (R = none) := by
                unfold Hid
                rw [HRR.out, hd1.out]
                cases s.data.toList.drop (q + 1) with
                | nil => rfl
                | cons b t =>
                  dsimp only; rw [HV.out]
                  cases hexV b with
                  | none => rfl
                  | some o => dsimp only; rw [if_pos (.inl ⟨hb1, hb2⟩)]
              have n1 : decide ((hi : Int) < 0) = false := by simp
              have n2 : decide ((1 : Int) < (hi : Int)) = true := by simp; omega
              have n3 : decide ((hi : Int) < 7) = true := by simp; omega
              go_wp2
              go_quiet (fail)
              go_wp2_with fail
              generalize hw2 : w3.drewN _ = w4
              have hr4 : RdAt r s q w4 := by rw [← hw2]; exact hr3
              have hg4 : GC r w w4 := by rw [← hw2]; exact hg3.drewN _
              clear hw2
              refine (f237_at hr4 hg4).mono ?_
              rintro e w5 ⟨j, rfl, hg5⟩
              exact ⟨rfl, EscR.none hRn.out ⟨j, rfl, hg5⟩⟩
            · have n1 : decide ((hi : Int) < 0) = false := by simp
              have hor : decide ((1 : Int) < (hi : Int)) = false ∨ (decide ((1 : Int) < (hi : Int)) = true ∧ decide ((hi : Int) < 7) = false) := by
                simp; omega
              clear hbad
              rcases hor with n2 | ⟨n2, n3⟩
              all_goals
                go_wp2
                go_quiet (fail)
                generalize hw3 : w3.drewN _ = w3x
                have hr3x : RdAt r s q w3x := by rw [← hw3]; exact hr3
                have hg3x : GC r w w3x := by rw [← hw3]; exact hg3.drewN _
                clear hw3 c0 c1 cf
                have c0 : w3x.cell? ⟨r, 0, none⟩ = some (.string s) := Lib.cell_of_heap hr3x 0
                have c1 : w3x.cell? ⟨r, 1, none⟩ = some (.int .i64 q) := Lib.cell_of_heap hr3x 1
                have cf : w3x.frozen? ⟨r, 1, none⟩ = false := Lib.frozen_of_heap hr3x 1
                go_wp2_with fail
                obtain ⟨hr4, hg4⟩ := hr3x.set (q + 1)
                replace hg4 := hg3x.trans hg4
                obtain ⟨p, hp⟩ : ∃ p, q + 1 = p := ⟨_, rfl⟩
                have hps : p ≤ s.size := by omega
                have hd1p : Hid (s.data.toList.drop q = s[q] :: s.data.toList.drop p) := by rw [← hp]; exact hd1
                have hpi : (q : Int) + 1 = ((p : Nat) : Int) := by omega
                rw [hp] at hr4 hg4
                rw [← hpi] at hr4 hg4
                generalize hw4 : World.setCell _ _ _ = w4 at hr4 hg4 ⊢
                clear hw4 c0 c1 cf hpi hd1 hp
                have HRR2 : Hid (R = match s.data.toList.drop p with
                    | b :: t => match hexV b with
                      | some o => if (1 < hi ∧ hi < 7) ∨ (hi = 7 ∧ o < 15) then none else some ((16 * hi + o).toUInt8, t)
                      | none => none
                    | [] => none) := by
                  unfold Hid
                  rw [HRR.out, hd1p.out]
                  cases s.data.toList.drop p with
                  | nil => rfl
                  | cons b t =>
                    dsimp only
                    rw [HV.out]
                    cases hexV b <;> rfl
                by_cases h2s : p < s.size
                · have hd2 := Lib.hid (drop_cons s p h2s)
                  refine (f309_in r s p _ hr4 h2s).mono ?_
                  rintro e w5 ⟨rfl, h5⟩
                  have hr5 := hr4.below h5
                  have hg5 := hg4.trans (GC.of_below h5)
                  clear h5 hg4 hr4
                  go_wp2_with fail
                  refine (f157_hex _ s[p] rfl _).mono ?_
                  rintro e w6 ⟨rfl, rfl⟩
                  have hge : decide (s.size ≤ p) = false := by simp; omega
                  have c0 : w5.cell? ⟨r, 0, none⟩ = some (.string s) := Lib.cell_of_heap hr5 0
                  have c1 : w5.cell? ⟨r, 1, none⟩ = some (.int .i64 p) := Lib.cell_of_heap hr5 1
                  have cf : w5.frozen? ⟨r, 1, none⟩ = false := Lib.frozen_of_heap hr5 1
                  cases hv : hexV s[p] with
                  | none =>
                    have hRn : Hid (R = none) := by
                      unfold Hid
                      rw [HRR2.out, hd2.out]; dsimp only; rw [hv]
                    rw [ixH_none hv]
                    go_wp2
                    go_quiet (fail)
                    go_wp2_with fail
                    generalize hw2 : w5.drewN _ = w6
                    have hr6 : RdAt r s p w6 := by rw [← hw2]; exact hr5
                    have hg6 : GC r w w6 := by rw [← hw2]; exact hg5.drewN _
                    clear hw2
                    refine (f237_at hr6 hg6).mono ?_
                    rintro e w7 ⟨j, rfl, hg7⟩
                    exact ⟨rfl, EscR.none hRn.out ⟨j, rfl, hg7⟩⟩
                  | some lo =>
                    rw [ixH_some hv]
                    have lo16 := (hexD_hexV hv).2
                    have HW := Lib.hid hv
                    clear hv
                    have m1 : decide ((lo : Int) < 0) = false := by simp
                    by_cases hb2 : hi = 7 ∧ lo < 15
                    · have hRn : Hid (R = none) := by
                        unfold Hid
                        rw [HRR2.out, hd2.out]; dsimp only; rw [HW.out]; dsimp only; rw [if_pos (.inr hb2)]
                      have m2 : ((hi : Int) == 7) = true := by simp; omega
                      have m3 : decide ((lo : Int) < 15) = true := by simp; omega
                      clear hb2
                      go_wp2
                      go_quiet (fail)
                      go_wp2_with fail
                      generalize hw2 : w5.drewN _ = w6
                      have hr6 : RdAt r s p w6 := by rw [← hw2]; exact hr5
                      have hg6 : GC r w w6 := by rw [← hw2]; exact hg5.drewN _
                      clear hw2
                      refine (f237_at hr6 hg6).mono ?_
                      rintro e w7 ⟨j, rfl, hg7⟩
                      exact ⟨rfl, EscR.none hRn.out ⟨j, rfl, hg7⟩⟩
                    · have hRs : Hid (R = some ((16 * hi + lo).toUInt8, s.data.toList.drop (p + 1))) := by
                        unfold Hid
                        rw [HRR2.out, hd2.out]; dsimp only; rw [HW.out]; dsimp only
                        rw [if_neg]
                        have a2 : ¬ ((1 : Int) < (hi : Int)) ∨ ((1 : Int) < (hi : Int) ∧ ¬ (hi : Int) < 7) := by
                          first
                          | exact .inl (of_decide_eq_false n2)
                          | exact .inr ⟨of_decide_eq_true n2, of_decide_eq_false n3⟩
                        omega
                      have hor2 : ((hi : Int) == 7) = false ∨ (((hi : Int) == 7) = true ∧ decide ((lo : Int) < 15) = false) := by
                        by_cases e : hi = 7
                        · right; simp; omega
                        · left; simp; omega
                      have hby := Lib.hid (hex_byte hi lo hi16 lo16)
                      obtain ⟨h6, h7⟩ := hr5.set (p + 1)
                      have H6 := Lib.hid h6
                      have H7 := Lib.hid (hg5.trans h7)
                      clear h6 h7 hb2
                      rcases hor2 with m2 | ⟨m2, m3⟩
                      all_goals
                        go_wp2
                        go_quiet (fail)
                        generalize hw5 : w5.drewN _ = w5x
                        have hr5x : RdAt r s p w5x := by rw [← hw5]; exact hr5
                        have hg5x : GC r w w5x := by rw [← hw5]; exact hg5.drewN _
                        clear hw5 c0 c1 cf
                        have c0 : w5x.cell? ⟨r, 0, none⟩ = some (.string s) := Lib.cell_of_heap hr5x 0
                        have c1 : w5x.cell? ⟨r, 1, none⟩ = some (.int .i64 p) := Lib.cell_of_heap hr5x 1
                        have cf : w5x.frozen? ⟨r, 1, none⟩ = false := Lib.frozen_of_heap hr5x 1
                        obtain ⟨h6, h7⟩ := hr5x.set (p + 1)
                        have H6 := Lib.hid h6
                        have H7 := Lib.hid (hg5x.trans h7)
                        clear h6 h7
                        go_wp2
                        go_ret
                        exact EscR.some hRs.out (congrArg (Value.int .u8) hby.out) (by omega) rfl H6.out H7.out
                · have hd2 := Lib.hid (drop_end s p (by omega))
                  have hRn : Hid (R = none) := by
                    unfold Hid
                    rw [HRR2.out, hd2.out]
                  refine (f309_end r s p _ hr4 (by omega)).mono ?_
                  rintro e w5 ⟨rfl, h5⟩
                  have hr5 := hr4.below h5
                  have hg5 := hg4.trans (GC.of_below h5)
                  clear h5 hg4 hr4
                  go_wp2_with fail
                  refine (f157_hex _ 0 rfl _).mono ?_
                  rintro e w6 ⟨rfl, rfl⟩
                  have hge : decide (s.size ≤ p) = true := by simp; omega
                  have c0 : w5.cell? ⟨r, 0, none⟩ = some (.string s) := Lib.cell_of_heap hr5 0
                  have c1 : w5.cell? ⟨r, 1, none⟩ = some (.int .i64 p) := Lib.cell_of_heap hr5 1
                  go_wp2
                  go_quiet (fail)
                  go_wp2_with fail
                  generalize hw2 : w5.drewN _ = w6
                  have hr6 : RdAt r s p w6 := by rw [← hw2]; exact hr5
                  have hg6 : GC r w w6 := by rw [← hw2]; exact hg5.drewN _
                  clear hw2
                  refine (f237_at hr6 hg6).mono ?_
                  rintro e w7 ⟨j, rfl, hg7⟩
                  exact ⟨rfl, EscR.none hRn.out ⟨j, rfl, hg7⟩⟩
        · have hd1 := Lib.hid (drop_end s q (by omega))
          have hRn : Hid (R = none) := by
            unfold Hid
            rw [HRR.out, hd1.out]
          refine (f309_end r s q _ hr2 (by omega)).mono ?_
          rintro e w5 ⟨rfl, h5⟩
          have hr5 := hr2.below h5
          have hg5 := hg2.trans (GC.of_below h5)
          clear h5 hg2 hr2
          go_wp2_with fail
          refine (f157_hex _ 0 rfl _).mono ?_
          rintro e w6 ⟨rfl, rfl⟩
          have hge : decide (s.size ≤ q) = true := by simp; omega
          have c0 : w5.cell? ⟨r, 0, none⟩ = some (.string s) := Lib.cell_of_heap hr5 0
          have c1 : w5.cell? ⟨r, 1, none⟩ = some (.int .i64 q) := Lib.cell_of_heap hr5 1
          go_wp2
          go_quiet (fail)
          go_wp2_with fail
          generalize hw2 : w5.drewN _ = w6
          have hr6 : RdAt r s q w6 := by rw [← hw2]; exact hr5
          have hg6 : GC r w w6 := by rw [← hw2]; exact hg5.drewN _
          clear hw2
          refine (f237_at hr6 hg6).mono ?_
          rintro e w7 ⟨j, rfl, hg7⟩
          exact ⟨rfl, EscR.none hRn.out ⟨j, rfl, hg7⟩⟩
      · have hm : Hid (mustP [120] (s.data.toList.drop k) = none) := by
          unfold Hid; rw [hd.out, mustP_step, if_neg (fun e => hx e.symm)]
        have hRn : Hid (R = none) := by
          unfold Hid
          rw [← HR.out, hd.out]; unfold escP; dsimp only; rw [if_neg hq, if_neg hx]
        clear HR hq hx
        go_enter Tryz.func349, Tryz.ntmps349
        go_wp2_with fail
        refine hh.mono ?_
        rintro e w1 ⟨rfl, h1⟩
        have hr1 := h.below h1
        have hg1 := GC.of_below (c := r) h1
        go_wp2_with fail
        refine (hmust _ hr1 hk hs (by decide)).mono ?_
        rintro e w2 hm2
        have hm3 : MustR (mustP [120] (s.data.toList.drop k)) r s (k + 1) w1 e w2 := hm2
        rw [hm.out] at hm3
        obtain ⟨j, rfl, hg2⟩ := hm3
        exact ⟨rfl, EscR.none hRn.out ⟨j, rfl, hg1.trans hg2⟩⟩
  · have hd := Lib.hid (drop_end s k (by omega))
    have hm : Hid (mustP [120] (s.data.toList.drop k) = none) := by
      unfold Hid; rw [hd.out, mustP_end]
    have hRn : Hid (R = none) := by
      unfold Hid; rw [← HR.out, hd.out]; rfl
    clear HR
    go_enter Tryz.func349, Tryz.ntmps349
    go_wp2_with fail
    refine (f309_end r s k _ h (by omega)).mono ?_
    rintro e w1 ⟨rfl, h1⟩
    have hr1 := h.below h1
    have hg1 := GC.of_below (c := r) h1
    go_wp2_with fail
    refine (hmust _ hr1 hk hs (by decide)).mono ?_
    rintro e w2 hm2
    have hm3 : MustR (mustP [120] (s.data.toList.drop k)) r s (k + 1) w1 e w2 := hm2
    rw [hm.out] at hm3
    obtain ⟨j, rfl, hg2⟩ := hm3
    exact ⟨rfl, EscR.none hRn.out ⟨j, rfl, hg1.trans hg2⟩⟩
end Go.Proofs.YtijgmloodkbljaaGreatDoor

namespace Go.Proofs.YtijgmloodkbljaaGreatDoor
open Go Go.RowKit

def sgnL (l : List UInt8) : Bool := l.head? == some 45
def magL (l : List UInt8) : List UInt8 := if sgnL l = true then l.tail else l
def inI (neg : Bool) (m : Nat) : Bool := if neg = true then decide (m ≤ 9223372036854775808) else decide (m ≤ 9223372036854775807)
/-- A text's number, and what is wrong with it. -/
def numR (l : List UInt8) : Int × Int :=
  if magL l = [] ∨ (magL l).all digU = false ∨ ((magL l).head? = some 48 ∧ l ≠ [48]) then (0, 10)
  else if inI (sgnL l) (decV (magL l)) = true then ((if sgnL l = true then -(decV (magL l) : Int) else decV (magL l)), 0)
  else (0, 7)

theorem decV_cons_ge (l : List UInt8) (a : Nat) : a ≤ l.foldl (fun a c => a * 10 + (c.toNat - 48)) a := by
  induction l generalizing a with
  | nil => exact Nat.le_refl _
  | cons c l ih => exact Nat.le_trans (Nat.le_trans (Nat.le_mul_of_pos_right a (by decide)) (Nat.le_add_right _ _)) (ih _)
theorem parseUintM_dig (l : List UInt8) (hl : l.all digU = true) (a : Nat) (ha : a ≤ 2 ^ 64 - 1) :
    Lib.parseUintM (2 ^ 64 - 1) a l = if l.foldl (fun a c => a * 10 + (c.toNat - 48)) a ≤ 2 ^ 64 - 1 then .ok (l.foldl (fun a c => a * 10 + (c.toNat - 48)) a) else .range := by
  induction l generalizing a with
  | nil => rw [Lib.parseUintM, List.foldl_nil, if_pos ha]
  | cons c l ih =>
    rw [List.all_cons, Bool.and_eq_true] at hl
    have hc := digU_bd hl.1
    have hge := decV_cons_ge l (a * 10 + (c.toNat - 48))
    rw [Lib.parseUintM, if_pos hc, List.foldl_cons]
    by_cases h1 : 1844674407370955162 ≤ a
    · rw [if_pos h1, if_neg (by omega)]
    · rw [if_neg h1]
      by_cases h2 : 2 ^ 64 - 1 < a * 10 + (c.toNat - 48)
      · rw [if_pos h2, if_neg (by omega)]
      · rw [if_neg h2, ih hl.2 _ (by omega)]
theorem parseUintB_dig (l : List UInt8) (hne : l ≠ []) (hl : l.all digU = true) :
    Lib.parseUintB 64 l = if decV l ≤ 2 ^ 64 - 1 then .ok (decV l) else .range := by
  unfold Lib.parseUintB
  rw [if_neg hne, parseUintM_dig l hl 0 (by omega)]
  rfl
theorem toNat45 {c : UInt8} (h : c.toNat = 45) : c = 45 := UInt8.toNat_inj.1 (by simpa using h)
/-- What strconv.ParseInt makes of digits, with a sign or without. -/
theorem parseIntB_dig (l : List UInt8) (hne : magL l ≠ []) (hl : (magL l).all digU = true) :
    Lib.parseIntB 64 l = if inI (sgnL l) (decV (magL l)) = true then .ok (if sgnL l = true then -(decV (magL l) : Int) else decV (magL l)) else .range := by
  cases l with
  | nil => exact absurd rfl hne
  | cons c r =>
    unfold Lib.parseIntB
    dsimp only
    by_cases hc : c = 45
    · subst hc
      have hs : sgnL (45 :: r) = true := rfl
      have hm : magL (45 :: r) = r := rfl
      rw [hm] at hne hl ⊢
      rw [hs]
      have e45 : (45 : UInt8).toNat = 45 := rfl
      rw [if_pos (.inr e45), parseUintB_dig r hne hl]
      unfold inI
      simp only [if_true]
      by_cases h1 : decV r ≤ 2 ^ 64 - 1
      · rw [if_pos h1]
        dsimp only
        rw [if_neg (fun h => h.1 e45)]
        by_cases h2 : decV r ≤ 9223372036854775808
        · rw [if_neg (fun h => by have := h.2; omega), if_pos e45, if_pos (decide_eq_true h2)]
        · rw [if_pos ⟨e45, by omega⟩, if_neg (by simp; omega)]
      · rw [if_neg h1]
        dsimp only
        rw [if_neg (by simp; omega)]
    · have hs : sgnL (c :: r) = false := by unfold sgnL; simp [hc]
      have hm : magL (c :: r) = c :: r := by unfold magL; rw [hs]; rfl
      rw [hm] at hne hl ⊢
      rw [hs]
      have hd : digU c = true := by rw [List.all_cons, Bool.and_eq_true] at hl; exact hl.1
      have hb := digU_bd hd
      rw [if_neg (by omega), parseUintB_dig _ hne hl]
      unfold inI
      simp only [Bool.false_eq_true, if_false]
      by_cases h1 : decV (c :: r) ≤ 2 ^ 64 - 1
      · rw [if_pos h1]
        dsimp only
        by_cases h2 : decV (c :: r) ≤ 9223372036854775807
        · rw [if_neg (fun h => by have := h.2; omega), if_neg (fun h => by have := h.1; omega), if_neg (by omega), if_pos (decide_eq_true h2)]
        · rw [if_pos ⟨by omega, by omega⟩, if_neg (by simp; omega)]
      · rw [if_neg h1]
        dsimp only
        rw [if_neg (by simp; omega)]

/-- What the rows list, the cell of strconv.ErrRange besides. -/
structure LdE (w : World) : Prop where
  laid : Laid w
  rng : ∃ ev, w.cell? ⟨5, 0, none⟩ = some ev ∧ (ev = .nilIface ∨ ∃ te pe, ev = .iface te pe)
theorem LdE.below {w w' : World} {B : Nat} (h : LdE w) (hb : Below B w w') (hB : 8 ≤ B) : LdE w' := by
  obtain ⟨ev, h1, h2⟩ := h.rng
  exact ⟨h.laid.below hb hB, ev, (hb.cell (p := ⟨5, 0, none⟩) (show 5 < B by omega)).trans h1, h2⟩
theorem LdE.alloc {w : World} (h : LdE w) (o : Obj) : LdE (w.alloc o) := h.below ((Below.refl w.heap.size w).alloc (Nat.le_refl _) o) h.laid.size
theorem LdE.ret {w w' : World} (h : LdE w) (hb : Below w.heap.size w w') : LdE w' := h.below hb h.laid.size
theorem LdE.gc {w w' : World} {r : Nat} (h : LdE w) (hg : GC r w w') (hr : 8 ≤ r) : LdE w' := h.below (hg.below 8 hr h.laid.size) (Nat.le_refl _)

theorem f193_digit (c : Int) (w : World) : Calls Tryz.prog 193 #[.int .u8 c] w (Same (.bool (!digB c)) w) := by
  go_enter Tryz.func193, Tryz.ntmps193
  go_wp2
  all_goals (go_ret; exact same_bool (by rw [Bool.eq_iff_iff]; simp [digB]; try omega))
def IxR (b : Bool) (w : World) (e : Ending) (w' : World) : Prop := ∃ j : Int, e = .returned (.int .i64 j) ∧ decide (0 ≤ j) = b ∧ w = w'
theorem take_all {s : ByteArray} {k : Nat} (h : k < s.size) (p : UInt8 → Bool) : (s.data.toList.take (k + 1)).all p = ((s.data.toList.take k).all p && p s[k]) := by
  rw [List.take_succ_eq_append_getElem (by simpa using h), List.all_append]
  simp
  rfl
theorem all_false {s : ByteArray} {k : Nat} (h : k < s.size) {p : UInt8 → Bool} (hp : p s[k] = false) : s.data.toList.all p = false := by
  cases hx : s.data.toList.all p
  · rfl
  · rw [List.all_eq_true] at hx
    have := hx s[k] (by rw [← getD_at s k h, List.getD_eq_getElem?_getD, List.getElem?_eq_getElem (by simpa using h)]; exact List.getElem_mem _)
    rw [hp] at this; cases this
theorem digU_B (c : UInt8) : digB c.toNat = digU c := by
  unfold digB digU
  rw [Bool.eq_iff_iff]; simp; omega
set_option maxHeartbeats 1000000 in
theorem f255_any (d : ByteArray) (g cap : Nat) (w : World) (hs : d.size ≤ 1048576) (hc : ∀ i (h : i < d.size), w.cell? ⟨g, i, none⟩ = some (.int .u8 d[i].toNat)) :
    Calls Tryz.prog 255 #[.slice (some ⟨g, 0, none⟩) d.size cap, .func (.func 193) #[] #[]] w (IxR (!d.data.toList.all digU) w) := by
  generalize hA : (!d.data.toList.all digU) = A
  have HA := Lib.hid hA
  clear hA
  have HC := Lib.hid hc
  clear hc
  go_enter Tryz.func255, Tryz.ntmps255
  go_wp2
  go_loop [8] (fun v => ∃ k : Nat, k ≤ d.size ∧ v = .int .i64 k ∧ Hid ((d.data.toList.take k).all digU = true)) (fun v => d.size - (intOf v).toNat)
  case atStart => exact ⟨0, by omega, rfl, rfl⟩
  case round =>
    obtain ⟨k, hk, rfl, H⟩ := hrel
    by_cases hlt : k < d.size
    · have hcell := HC.out k hlt
      cases hd : digB d[k].toNat
      · have hfin : Hid (true = A) := by
          unfold Hid; rw [← HA.out, all_false hlt (by rw [← digU_B]; exact hd)]; rfl
        go_wp2_with (go_at_call 193; refine (f193_digit _ _).mono ?_; rw [hd]; rintro e w' ⟨rfl, rfl⟩)
        go_ret
        exact ⟨_, rfl, by rw [← hfin.out]; simp, rfl⟩
      · have hfin : Hid ((d.data.toList.take (k + 1)).all digU = true) := by
          unfold Hid; rw [take_all hlt, H.out, ← digU_B, hd]; rfl
        go_wp2_with (go_at_call 193; refine (f193_digit _ _).mono ?_; rw [hd]; rintro e w' ⟨rfl, rfl⟩)
        go_round
        case rel => exact ⟨k + 1, by omega, by go_num, hfin⟩
        case measure => simp [intOf]; omega
    · obtain rfl : k = d.size := by omega
      have hfin : Hid (false = A) := by
        have h := H.out
        rw [List.take_of_length_le (by simp)] at h
        unfold Hid; rw [← HA.out, h]; rfl
      go_wp2
      go_ret
      exact ⟨_, rfl, by rw [← hfin.out]; rfl, rfl⟩
theorem f192_any (d : ByteArray) (g cap : Nat) (w : World) (hs : d.size ≤ 1048576) (hc : ∀ i (h : i < d.size), w.cell? ⟨g, i, none⟩ = some (.int .u8 d[i].toNat)) (b : Bool) (hb : d.data.toList.all digU = b) :
    Calls Tryz.prog 192 #[.slice (some ⟨g, 0, none⟩) d.size cap, .func (.func 193) #[] #[]] w (Same (.bool (!b)) w) := by
  have h := f255_any d g cap w hs hc
  rw [hb] at h
  have HC := Lib.hid hc
  clear hc
  go_enter Tryz.func192, Tryz.ntmps192
  go_wp2_with fail
  refine h.mono ?_
  rintro e w1 ⟨j, rfl, hj, rfl⟩
  go_wp2
  go_ret
  exact ⟨rfl, rfl⟩

theorem f162_told (n : Int) (b : Bool) (w : World) : Calls Tryz.prog 162 #[.int .i64 n, .bool b] w (Same (.tuple #[.int .i64 (if b = true then n else 0), .int .i64 (if b = true then 0 else 7)]) w) := by
  cases b
  all_goals
    go_enter Tryz.func162, Tryz.ntmps162
    go_wp2
    go_ret2
    exact ⟨rfl, rfl⟩
end Go.Proofs.YtijgmloodkbljaaGreatDoor

namespace Go.Proofs.YtijgmloodkbljaaGreatDoor
open Go Go.RowKit Go.ChangeShapes

def faceB (P : Program) (g : Nat) : Bool := match (P.globals[g]?).map (·.type) with | some t => (match P.underlying t with | some (.interface _) => true | _ => false) | none => false
theorem gRng : Tryz.prog.globalNamed "strconv.ErrRange" = some 5 := by kernel_rfl
theorem face5 : faceB Tryz.prog 5 = true := by kernel_rfl
theorem face_of {P : Program} {g : Nat} {t : TypeId} (h : faceB P g = true) (ht : (P.globals[g]?).map (·.type) = some t) : ∃ ms, P.underlying t = some (.interface ms) := by
  unfold faceB at h
  rw [ht] at h
  dsimp only at h
  split at h
  · rename_i ms hm; exact ⟨ms, hm⟩
  · cases h
/-- What a row's list of the standard library's variables gives the walks. -/
theorem ldE_of {l : List (String × DataW Unit)} {W : World} {nm : String} {d : DataW Unit} (h : laidMetH Tryz.prog l W)
    (e1 : ((l.filter fun x => x.2.handleName?.isNone).filter fun x => x.1 == "internal/strconv.uint64pow10") = [("internal/strconv.uint64pow10", Lib.tabData .u64 Lib.pow10Tab)])
    (e2 : ((l.filter fun x => x.2.handleName?.isNone).filter fun x => x.1 == "math/bits.deBruijn64tab") = [("math/bits.deBruijn64tab", Lib.tabData .u8 bitsTab)])
    (e3 : ((l.filter fun x => x.2.handleName?.isNone).filter fun x => x.1 == "strconv.ErrRange") = [("strconv.ErrRange", .iface nm d)]) : LdE W := by
  have h := (laidMetH_iff.1 h).1
  have hp := laidMet.filter (fun x => x.1 == "internal/strconv.uint64pow10") h
  have hb := laidMet.filter (fun x => x.1 == "math/bits.deBruijn64tab") h
  have hr := laidMet.filter (fun x => x.1 == "strconv.ErrRange") h
  rw [e1] at hp
  rw [e2] at hb
  rw [e3] at hr
  have t1 := Lib.tabIs_of_head (rest := []) gTab ty3 Tryz.underlying350 Tryz.underlying192 c192 c350 hp
  have t2 := Lib.tabIs_of_head (rest := []) gBits ty7 Tryz.underlying365 Tryz.underlying5 c5 c365 hb
  have hc : W.cell? ⟨7, 15, none⟩ = some (.int .u8 4) := t2.cell gBits 15 (by decide)
  have hL : Laid W := ⟨hc, t1, by have h7 : 7 < W.heap.size := World.block_lt_of_cell? W ⟨7, 15, none⟩ hc; show 8 ≤ W.heap.size; omega⟩
  refine ⟨hL, ?_⟩
  obtain ⟨g, t, cs, fuel, p, hg, ht, hv, hd⟩ := Lib.laidMet.reads hr (n := "strconv.ErrRange") (d := .iface nm d) (by simp)
  obtain rfl := Option.some.inj (gRng.symm.trans hg)
  obtain ⟨ms, hm⟩ := face_of face5 ht
  obtain ⟨_, u, v, hcs, _⟩ := iface_of_trod hm hd
  refine ⟨.iface u v, ?_, .inr ⟨u, v, rfl⟩⟩
  obtain ⟨c⟩ := cs
  obtain rfl : c = [.iface u v] := hcs
  simpa using World.var?_cell gRng hv 0
end Go.Proofs.YtijgmloodkbljaaGreatDoor

namespace Go.Proofs.YtijgmloodkbljaaGreatDoor
open Go Go.RowKit

theorem hide {p : Prop} (h : p) : Hid p := h
theorem unhide {p : Prop} (h : Hid p) : p := h
abbrev numT (x : Int × Int) : Value := .tuple #[.int .i64 x.1, .int .i64 x.2]
theorem f194_ok (s : ByteArray) (n : Int) (h : Lib.parseIntB 64 s.data.toList = .ok n) (w : World) (hs : s.size ≤ 1048576) : Calls Tryz.prog 194 #[.string s, .int .i64 10, .int .i64 64] w (Ret (.tuple #[.int .i64 n, .nilIface]) w) :=
  (Tryz.strconv_ParseInt_10_at64_ok s (by omega) n h w).mono fun e w' ⟨he, hw⟩ => ⟨he, by
    rcases hw with rfl | ⟨t, rfl⟩
    · exact Below.refl _ _
    · exact bytesW_below _ _⟩
def RngR (w : World) (e : Ending) (w' : World) : Prop := ∃ (m : Int) (N : Nat), e = .returned (.tuple #[.int .i64 m, .iface 327 (.pointer (some ⟨N, 0, none⟩))]) ∧ Below w.heap.size w w'
theorem f194_range (s : ByteArray) (h : Lib.parseIntB 64 s.data.toList = .range) (w : World) (hs : s.size ≤ 1048576) (hL : LdE w) : Calls Tryz.prog 194 #[.string s, .int .i64 10, .int .i64 64] w (RngR w) := by
  obtain ⟨ev, h1, h2⟩ := hL.rng
  exact (Tryz.strconv_ParseInt_10_at64_range s (by omega) h ev w h1 h2).mono fun e w' ⟨N, he, _, _, hb⟩ => ⟨_, N, he, hb⟩

theorem sgn_iff (s : ByteArray) (h : 0 < s.size) : sgnL s.data.toList = ((s[0].toNat : Int) == 45) := by
  have hd := drop_cons s 0 h
  rw [List.drop_zero] at hd
  unfold sgnL
  rw [hd, List.head?_cons, Bool.eq_iff_iff]
  simp
  constructor
  · intro e; rw [e]; rfl
  · intro e; exact UInt8.toNat_inj.1 (by simp; omega)
theorem numRet {a b : Int} {R : Int × Int} (h : (a, b) = R) {w w' : World} (hb : Below w.heap.size w w') : Ret (numT R) w (.returned (.tuple #[.int .i64 a, .int .i64 b])) w' := by subst h; exact ⟨rfl, hb⟩
theorem tail_extract (s : ByteArray) : s.data.toList.tail = (s.extract 1 s.size).data.toList := by
  rw [ByteArray.data_extract, Array.toList_extract]
  simp
  rw [List.take_of_length_le]
  simp
set_option maxHeartbeats 4000000 in
set_option maxRecDepth 100000 in
theorem f113_Parse (s : ByteArray) (w : World) (hs : s.size ≤ 1048576) (hL : LdE w) : Calls Tryz.prog 113 #[.string s] w (Ret (numT (numR s.data.toList)) w) := by
  generalize hR : numR s.data.toList = R
  have HR := Lib.hid hR
  clear hR
  have hcv := fun (d : ByteArray) W => Lib.run_convert_string_bytes (P := Tryz.prog) W 9 65 5 d Tryz.underlying9 Tryz.underlying65 Tryz.underlying5
  by_cases h0 : s.size = 0
  · obtain rfl : s = ⟨#[]⟩ := empty_of_size h0
    have hRR : R = (0, 10) := by rw [← HR.out]; rfl
    subst hRR
    clear HR
    go_enter Tryz.func113, Tryz.ntmps113
    go_wp2
    go_ret2
    exact ⟨rfl, Below.refl _ _⟩
  · have hne := nonempty_str h0
    have hd0 := Lib.hid (drop_cons s 0 (by omega))
    have hp0 : 0 < s.size := by omega
    have hsg := Lib.hid (sgn_iff s hp0)
    go_enter Tryz.func113, Tryz.ntmps113
    go_upto_if 14 with fail
    go_cut [4] from 5 (fun s4 wc => ∃ d : ByteArray, s4 = .string d ∧ Hid (magL s.data.toList = d.data.toList) ∧ d.size ≤ 1048576 ∧ wc = w)
    case first =>
      cases hc : ((s[0].toNat : Int) == 45)
      · go_wp2
        go_meet
        exact ⟨s, rfl, by unfold Hid magL; rw [hsg.out, hc]; rfl, hs, rfl⟩
      · go_wp2
        go_meet
        refine ⟨_, rfl, ?_, ?_, rfl⟩
        · unfold Hid magL
          rw [hsg.out, hc, if_pos rfl]
          exact tail_extract s
        · simp
          omega
    case rest =>
      obtain ⟨d, rfl, hm, hds, rfl⟩ := hcut
      by_cases hd0 : d.size = 0
      · obtain rfl : d = ⟨#[]⟩ := empty_of_size hd0
        have hRR : Hid ((0, 10) = R) := by
          unfold Hid; rw [← HR.out]; unfold numR; rw [if_pos (.inl hm.out)]
        go_wp2
        go_ret2
        exact numRet hRR.out (Below.refl _ _)
      · have hdne := nonempty_str hd0
        have hc : ∀ i (h : i < d.size), (Lib.bytesWorld wc 5 d).cell? ⟨wc.heap.size, i, none⟩ = some (.int .u8 d[i].toNat) := fun i h => by
          rw [Lib.bytesWorld_cell wc 5 d i h, getD_at d i h]
        have hb := bytesW_below wc d
        have hcvd := hcv d
        have hd00 := Lib.hid (drop_cons d 0 (by omega))
        have hdp : 0 < d.size := by omega
        have hLb : LdE (Lib.bytesWorld wc 5 d) := hL.ret hb
        have HL := Lib.hid hLb
        clear hcv hL hLb
        cases hall : d.data.toList.all digU
        · have hRR : Hid ((0, 10) = R) := by
            unfold Hid; rw [← HR.out]; unfold numR; rw [if_pos (.inr (.inl (by rw [hm.out]; exact hall)))]
          have h192 := fun cap => f192_any d wc.heap.size cap (Lib.bytesWorld wc 5 d) hds hc false hall
          have H192 := Lib.hid h192
          have HC := Lib.hid hc
          clear h192 hc
          go_wp2_with (go_at_call 192; refine (H192.out _).mono ?_; rintro e w1 ⟨rfl, rfl⟩)
          go_ret2
          exact numRet hRR.out hb
        · have h192 := fun cap => f192_any d wc.heap.size cap (Lib.bytesWorld wc 5 d) hds hc true hall
          have H192 := Lib.hid h192
          have HC := Lib.hid hc
          clear h192 hc
          have hor : (((d[0].toNat : Int) == 48) = false ∧ d[0] ≠ 48) ∨ (((d[0].toNat : Int) == 48) = true ∧ d[0] = 48) := by
            by_cases h48 : d[0] = 48
            · exact .inr ⟨by rw [h48]; rfl, h48⟩
            · refine .inl ⟨?_, h48⟩
              simp only [beq_eq_false_iff_ne, ne_eq]; intro h; exact h48 (UInt8.toNat_inj.1 (by simp; omega))
          have hhd : (magL s.data.toList).head? = some d[0] := by
            have := hd00.out
            rw [List.drop_zero] at this
            rw [hm.out, this]; rfl
          have hmne : magL s.data.toList ≠ [] := by intro h; rw [h] at hhd; cases hhd
          have HHD := Lib.hid hhd
          have HMN := Lib.hid hmne
          clear hhd hmne
          have hgo : (d[0] ≠ 48 ∨ s.data.toList = [48]) → Hid (R = if inI (sgnL s.data.toList) (decV (magL s.data.toList)) = true then ((if sgnL s.data.toList = true then -(decV (magL s.data.toList) : Int) else decV (magL s.data.toList)), 0) else (0, 7)) := by
            intro h
            unfold Hid
            rw [← HR.out]
            unfold numR
            rw [if_neg]
            rintro (h1 | h1 | ⟨h1, h2⟩)
            · exact HMN.out h1
            · rw [hm.out, hall] at h1; cases h1
            · rcases h with h | h
              · rw [HHD.out] at h1; exact h (by simpa using h1)
              · exact h2 h
          have hpi := parseIntB_dig s.data.toList HMN.out (by rw [hm.out]; exact hall)
          have HPI := Lib.hid hpi
          have hlast : ∀ W, LdE W → Below wc.heap.size wc W → (d[0] ≠ 48 ∨ s.data.toList = [48]) → Calls Tryz.prog 194 #[.string s, .int .i64 10, .int .i64 64] W (fun e w' => (∃ n, e = .returned (.tuple #[.int .i64 n, .nilIface]) ∧ (n, 0) = R ∧ Below wc.heap.size wc w') ∨ (∃ (m : Int) (N : Nat), e = .returned (.tuple #[.int .i64 m, .iface 327 (.pointer (some ⟨N, 0, none⟩))]) ∧ (0, 7) = R ∧ Below wc.heap.size wc w')) := by
            intro W hW hbW h
            have h1 := hgo h
            have h2 := HPI.out
            cases hin : inI (sgnL s.data.toList) (decV (magL s.data.toList))
            · rw [hin, if_neg (by decide)] at h2
              have h3 := h1.out
              rw [hin, if_neg (by decide)] at h3
              refine (f194_range s h2 W hs hW).mono ?_
              rintro e w' ⟨m, N, rfl, hb2⟩
              exact .inr ⟨m, N, rfl, h3.symm, hbW.trans (hb2.mono hbW.size)⟩
            · rw [hin, if_pos rfl] at h2
              have h3 := h1.out
              rw [hin, if_pos rfl] at h3
              refine (f194_ok s _ h2 W hs).mono ?_
              rintro e w' ⟨rfl, hb2⟩
              exact .inl ⟨_, rfl, h3.symm, hbW.trans (hb2.mono hbW.size)⟩
          have HLA := hide hlast
          clear hlast hpi hgo hall
          rcases hor with ⟨e48, hn48⟩ | ⟨e48, h48⟩
          · go_wp2_with (go_at_call 192; refine (H192.out _).mono ?_; rintro e w1 ⟨rfl, rfl⟩)
            refine ((unhide HLA) _ HL.out hb (.inl hn48)).mono ?_
            rintro e w2 (⟨n, rfl, hn, hb2⟩ | ⟨m, N, rfl, hn, hb2⟩)
            · have HN := Lib.hid hn
              clear hn
              go_wp2_with (go_at_call 162; refine (f162_told _ _ _).mono ?_; rintro e w3 ⟨rfl, rfl⟩)
              go_ret2
              exact numRet HN.out hb2
            · have HN := Lib.hid hn
              clear hn
              go_wp2_with (go_at_call 162; refine (f162_told _ _ _).mono ?_; rintro e w3 ⟨rfl, rfl⟩)
              go_ret2
              exact numRet HN.out hb2
          · cases h1 : (s.toList == [48])
            · have hRR : Hid ((0, 10) = R) := by
                unfold Hid; rw [← HR.out]; unfold numR
                rw [if_pos (.inr (.inr ⟨by rw [HHD.out, h48], fun e => by rw [Lib.toList_data, e] at h1; cases h1⟩))]
              go_wp2_with (go_at_call 192; refine (H192.out _).mono ?_; rintro e w1 ⟨rfl, rfl⟩)
              go_ret2
              exact numRet hRR.out hb
            · have hs48 : s.data.toList = [48] := by rw [← Lib.toList_data]; simpa using h1
              have HS := Lib.hid hs48
              clear hs48
              go_wp2_with (go_at_call 192; refine (H192.out _).mono ?_; rintro e w1 ⟨rfl, rfl⟩)
              refine ((unhide HLA) _ HL.out hb (.inr HS.out)).mono ?_
              rintro e w2 (⟨n, rfl, hn, hb2⟩ | ⟨m, N, rfl, hn, hb2⟩)
              · have HN := Lib.hid hn
                clear hn
                go_wp2_with (go_at_call 162; refine (f162_told _ _ _).mono ?_; rintro e w3 ⟨rfl, rfl⟩)
                go_ret2
                exact numRet HN.out hb2
              · have HN := Lib.hid hn
                clear hn
                go_wp2_with (go_at_call 162; refine (f162_told _ _ _).mono ?_; rintro e w3 ⟨rfl, rfl⟩)
                go_ret2
                exact numRet HN.out hb2
end Go.Proofs.YtijgmloodkbljaaGreatDoor
