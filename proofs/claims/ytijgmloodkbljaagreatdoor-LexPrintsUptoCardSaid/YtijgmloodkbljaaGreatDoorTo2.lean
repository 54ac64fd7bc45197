import Derived.Test.YtijgmloodkbljaaGreatDoorTok
namespace Go.Proofs.YtijgmloodkbljaaGreatDoor
open Go Go.RowKit

set_option maxHeartbeats 2000000 in
theorem f16_Check (k : Int) (s : ByteArray) (n p : Int) (w : World) (hs : s.size ≤ 1048576) :
    Calls Tryz.prog 16 #[.agg #[.int .i64 k, .string s, .int .i64 n, .int .i64 p]] w (Ret (.int .i64 (checkE (Tok.ok ⟨k, s, n, p⟩))) w) := by
  generalize hR : checkE (Tok.ok ⟨k, s, n, p⟩) = R
  have HR := Lib.hid hR
  clear hR
  by_cases hn : n = 0
  · subst hn
    have hR0 : R = checkE (decide (0 ≤ p) && kindOk k s.data.toList) := by rw [← HR.out]; simp [Tok.ok]
    have HR2 := Lib.hid hR0
    clear HR hR0
    by_cases hk1 : k = 1
    · subst hk1
      cases hb : nameL s.data.toList
      · have hR : R = 150 := by rw [HR2.out]; simp [kindOk, checkE, hb]
        subst hR
        try clear hR0
        clear HR2
        go_enter Tryz.func16, Tryz.ntmps16
        go_wp2_with (go_at_call 33; refine (f33_Name s _ hs).mono ?_; rw [hb]; rintro e w' ⟨rfl, rfl⟩)
        go_ret
        exact ⟨rfl, (Below.refl _ _).alloc (Nat.le_refl _) _⟩
      · have hR0 : R = checkE (decide (0 ≤ p)) := by rw [HR2.out]; simp [kindOk, hb]
        clear HR2
        by_cases hp : p < 0
        · have hR : R = 150 := by rw [hR0]; simp [checkE]; omega
          subst hR
          try clear hR0
          go_enter Tryz.func16, Tryz.ntmps16
          go_wp2_with (go_at_call 33; refine (f33_Name s _ hs).mono ?_; rw [hb]; rintro e w' ⟨rfl, rfl⟩)
          go_ret
          exact ⟨rfl, (Below.refl _ _).alloc (Nat.le_refl _) _⟩
        · have hp' : 0 ≤ p := by omega
          have hR : R = 0 := by rw [hR0]; simp [checkE]; omega
          subst hR
          try clear hR0
          clear hp
          go_enter Tryz.func16, Tryz.ntmps16
          go_wp2_with (go_at_call 33; refine (f33_Name s _ hs).mono ?_; rw [hb]; rintro e w' ⟨rfl, rfl⟩)
          go_ret
          exact ⟨rfl, (Below.refl _ _).alloc (Nat.le_refl _) _⟩
    · have hk1' : (k == 1) = false := by simpa using hk1
      by_cases hk2 : k = 2
      · subst hk2
        by_cases h0 : s.size = 0
        · obtain rfl : s = ⟨#[]⟩ := empty_of_size h0
          have hR0 : R = checkE (decide (0 ≤ p)) := by rw [HR2.out]; simp [kindOk]
          clear HR2 hk1
          by_cases hp : p < 0
          · have hR : R = 150 := by rw [hR0]; simp [checkE]; omega
            subst hR
            try clear hR0
            go_enter Tryz.func16, Tryz.ntmps16
            go_wp2
            go_ret
            exact ⟨rfl, (Below.refl _ _).alloc (Nat.le_refl _) _⟩
          · have hp' : 0 ≤ p := by omega
            have hR : R = 0 := by rw [hR0]; simp [checkE]; omega
            subst hR
            try clear hR0
            clear hp
            go_enter Tryz.func16, Tryz.ntmps16
            go_wp2
            go_ret
            exact ⟨rfl, (Below.refl _ _).alloc (Nat.le_refl _) _⟩
        · have hne := nonempty_str h0
          have hR : R = 150 := by
            rw [HR2.out]
            have : s.data.toList ≠ [] := by rw [← Lib.toList_data]; intro h; rw [h] at hne; cases hne
            simp [checkE, kindOk, this]
          subst hR
          try clear hR0
          clear HR2 hk1
          go_enter Tryz.func16, Tryz.ntmps16
          go_wp2
          go_ret
          exact ⟨rfl, (Below.refl _ _).alloc (Nat.le_refl _) _⟩
      · have hk2' : (k == 2) = false := by simpa using hk2
        by_cases hk3 : k = 3
        · subst hk3
          have hR0 : R = checkE (decide (0 ≤ p) && decide (s.size ≤ 128)) := by rw [HR2.out]; simp [kindOk]
          clear HR2 hk2 hk1
          by_cases h128 : s.size ≤ 128
          · have h128i : (s.size : Int) ≤ 128 := by omega
            by_cases hp : p < 0
            · have hR : R = 150 := by rw [hR0]; simp [checkE]; omega
              subst hR
              try clear hR0
              clear h128
              go_enter Tryz.func16, Tryz.ntmps16
              go_wp2
              go_ret
              exact ⟨rfl, (Below.refl _ _).alloc (Nat.le_refl _) _⟩
            · have hp' : 0 ≤ p := by omega
              have hR : R = 0 := by rw [hR0]; simp [checkE, h128, hp']
              subst hR
              try clear hR0
              clear hp h128
              go_enter Tryz.func16, Tryz.ntmps16
              go_wp2
              go_ret
              exact ⟨rfl, (Below.refl _ _).alloc (Nat.le_refl _) _⟩
          · have hR : R = 150 := by rw [hR0]; simp [checkE, h128]
            subst hR
            try clear hR0
            have h128i : decide ((s.size : Int) ≤ 128) = false := by simp; omega
            clear h128
            go_enter Tryz.func16, Tryz.ntmps16
            go_wp2
            go_ret
            exact ⟨rfl, (Below.refl _ _).alloc (Nat.le_refl _) _⟩
        · have hk3' : (k == 3) = false := by simpa using hk3
          by_cases hk4 : k = 4
          · subst hk4
            by_cases h1 : s.size = 1
            · have hp1 : 0 < s.size := by omega
              have hR0 : R = checkE (decide (0 ≤ p) && markB (s[0]'hp1).toNat) := by rw [HR2.out]; simp [kindOk, one_byte s h1]
              have h1' : ((s.size : Int) == 1) = true := by simp [h1]
              clear HR2 hk2 hk1 hk3 h1
              cases hm : markB (s[0]'hp1).toNat
              · have hR : R = 150 := by rw [hR0, hm]; simp [checkE]
                subst hR
                try clear hR0
                go_enter Tryz.func16, Tryz.ntmps16
                go_wp2_with (go_at_call 73; refine (f73_mark _ _).mono ?_; rintro e w' ⟨rfl, rfl⟩)
                go_ret
                exact ⟨rfl, (Below.refl _ _).alloc (Nat.le_refl _) _⟩
              · by_cases hp : p < 0
                · have hR : R = 150 := by rw [hR0]; simp [checkE]; omega
                  subst hR
                  try clear hR0
                  go_enter Tryz.func16, Tryz.ntmps16
                  go_wp2_with (go_at_call 73; refine (f73_mark _ _).mono ?_; rintro e w' ⟨rfl, rfl⟩)
                  go_ret
                  exact ⟨rfl, (Below.refl _ _).alloc (Nat.le_refl _) _⟩
                · have hp' : 0 ≤ p := by omega
                  have hR : R = 0 := by rw [hR0, hm]; simp [checkE, hp']
                  subst hR
                  try clear hR0
                  clear hp
                  go_enter Tryz.func16, Tryz.ntmps16
                  go_wp2_with (go_at_call 73; refine (f73_mark _ _).mono ?_; rintro e w' ⟨rfl, rfl⟩)
                  go_ret
                  exact ⟨rfl, (Below.refl _ _).alloc (Nat.le_refl _) _⟩
            · have h1' : ((s.size : Int) == 1) = false := by simp; omega
              have hR : R = 150 := by
                rw [HR2.out]
                have hl := data_len s
                generalize s.data.toList = l at *
                match l with
                | [] => simp [kindOk, checkE]
                | [c] => simp at hl; omega
                | c :: d :: l => simp [kindOk, checkE]
              clear HR2 hk2 hk1 hk3 h1
              subst hR
              try clear hR0
              go_enter Tryz.func16, Tryz.ntmps16
              go_wp2
              go_ret
              exact ⟨rfl, (Below.refl _ _).alloc (Nat.le_refl _) _⟩
          · have hk4' : (k == 4) = false := by simpa using hk4
            have hR : R = 150 := by rw [HR2.out]; simp [kindOk, checkE, hk1, hk2, hk3, hk4]
            clear HR2 hk2 hk1 hk3 hk4
            subst hR
            try clear hR0
            go_enter Tryz.func16, Tryz.ntmps16
            go_wp2
            go_ret
            exact ⟨rfl, (Below.refl _ _).alloc (Nat.le_refl _) _⟩
  · have hn1 : (n == 0) = false := by simpa using hn
    by_cases hk2 : k = 2
    · subst hk2
      have hR0 : R = checkE (decide (0 ≤ p) && decide (s.data.toList = [])) := by rw [← HR.out]; simp [Tok.ok, kindOk]
      clear HR
      by_cases h0 : s.size = 0
      · obtain rfl : s = ⟨#[]⟩ := empty_of_size h0
        by_cases hp : p < 0
        · have hR : R = 150 := by rw [hR0]; simp [checkE]; omega
          subst hR
          clear hR0 hn
          go_enter Tryz.func16, Tryz.ntmps16
          go_wp2
          go_ret
          exact ⟨rfl, (Below.refl _ _).alloc (Nat.le_refl _) _⟩
        · have hp' : 0 ≤ p := by omega
          have hR : R = 0 := by rw [hR0]; simp [checkE, hp']
          subst hR
          clear hR0 hp hn
          go_enter Tryz.func16, Tryz.ntmps16
          go_wp2
          go_ret
          exact ⟨rfl, (Below.refl _ _).alloc (Nat.le_refl _) _⟩
      · have hne := nonempty_str h0
        have hR : R = 150 := by
          rw [hR0]
          have : s.data.toList ≠ [] := by rw [← Lib.toList_data]; intro h; rw [h] at hne; cases hne
          simp [checkE, this]
        subst hR
        clear hR0 hn
        go_enter Tryz.func16, Tryz.ntmps16
        go_wp2
        go_ret
        exact ⟨rfl, (Below.refl _ _).alloc (Nat.le_refl _) _⟩
    · have hk2' : (k == 2) = false := by simpa using hk2
      have hR : R = 150 := by rw [← HR.out]; simp [Tok.ok, checkE, hn, hk2]
      subst hR
      clear HR hn
      by_cases hk1 : k = 1
      · subst hk1
        clear hk2
        cases hb : nameL s.data.toList
        all_goals
          go_enter Tryz.func16, Tryz.ntmps16
          go_wp2_with (go_at_call 33; refine (f33_Name s _ hs).mono ?_; rw [hb]; rintro e w' ⟨rfl, rfl⟩)
          go_ret
          exact ⟨rfl, (Below.refl _ _).alloc (Nat.le_refl _) _⟩
      · have hk1' : (k == 1) = false := by simpa using hk1
        clear hk1
        by_cases hk3 : k = 3
        · subst hk3
          clear hk2
          by_cases h128 : s.size ≤ 128
          · have h128i : (s.size : Int) ≤ 128 := by omega
            clear h128
            go_enter Tryz.func16, Tryz.ntmps16
            go_wp2
            go_ret
            exact ⟨rfl, (Below.refl _ _).alloc (Nat.le_refl _) _⟩
          · have h128i : decide ((s.size : Int) ≤ 128) = false := by simp; omega
            clear h128
            go_enter Tryz.func16, Tryz.ntmps16
            go_wp2
            go_ret
            exact ⟨rfl, (Below.refl _ _).alloc (Nat.le_refl _) _⟩
        · have hk3' : (k == 3) = false := by simpa using hk3
          clear hk3
          by_cases hk4 : k = 4
          · subst hk4
            clear hk2
            by_cases h1 : s.size = 1
            · have hp1 : 0 < s.size := by omega
              have h1' : ((s.size : Int) == 1) = true := by simp [h1]
              clear h1
              cases hm : markB (s[0]'hp1).toNat
              all_goals
                go_enter Tryz.func16, Tryz.ntmps16
                go_wp2_with (go_at_call 73; refine (f73_mark _ _).mono ?_; rintro e w' ⟨rfl, rfl⟩)
                go_ret
                exact ⟨rfl, (Below.refl _ _).alloc (Nat.le_refl _) _⟩
            · have h1' : ((s.size : Int) == 1) = false := by simp; omega
              clear h1
              go_enter Tryz.func16, Tryz.ntmps16
              go_wp2
              go_ret
              exact ⟨rfl, (Below.refl _ _).alloc (Nat.le_refl _) _⟩
          · have hk4' : (k == 4) = false := by simpa using hk4
            clear hk4 hk2
            go_enter Tryz.func16, Tryz.ntmps16
            go_wp2
            go_ret
            exact ⟨rfl, (Below.refl _ _).alloc (Nat.le_refl _) _⟩
end Go.Proofs.YtijgmloodkbljaaGreatDoor
