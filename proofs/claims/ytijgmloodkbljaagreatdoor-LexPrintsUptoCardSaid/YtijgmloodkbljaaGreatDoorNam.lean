import Derived.Test.YtijgmloodkbljaaGreatDoorMrk
namespace Go.Proofs.YtijgmloodkbljaaGreatDoor
open Go Go.RowKit

/-- The call returns v; below the heap's end nothing has turned. -/
def Ret (v : Value) (w : World) (e : Ending) (w' : World) : Prop := e = .returned v ∧ Below w.heap.size w w'
theorem ret_bool {a b : Bool} {w w' : World} (h : a = b) (hb : Below w.heap.size w w') : Ret (.bool b) w (.returned (.bool a)) w' := by subst h; exact ⟨rfl, hb⟩

def letU (c : UInt8) : Bool := letB c.toNat
def nameL (l : List UInt8) : Bool := decide (l ≠ [] ∧ l.length ≤ 24) && letU (l.headD 0) && l.all wordU

theorem data_len (s : ByteArray) : s.data.toList.length = s.size := by simp

theorem empty_of_size {s : ByteArray} (h : s.size = 0) : s = ⟨#[]⟩ := by
  obtain ⟨a⟩ := s
  have : a = #[] := Array.eq_empty_of_size_eq_zero h
  rw [this]
theorem nonempty_str {s : ByteArray} (h : ¬ s.size = 0) : s.toList.isEmpty = false := by
  rw [Lib.toList_data]
  cases hl : s.data.toList with
  | nil => exact absurd (by rw [← data_len, hl]; rfl) h
  | cons a l => rfl
theorem nameL_eq (s : ByteArray) (h : ¬ s.size = 0) : nameL s.data.toList = (decide (s.size ≤ 24) && letB (s[0]'(by omega)).toNat && s.data.toList.all wordU) := by
  unfold nameL
  have hd := drop_cons s 0 (by omega)
  rw [List.drop_zero] at hd
  have hne : s.data.toList ≠ [] := by rw [hd]; simp
  have hh : s.data.toList.headD 0 = s[0]'(by omega) := by rw [hd]; rfl
  rw [hh, data_len]
  simp [hne, letU]
set_option maxHeartbeats 400000 in
theorem f33_Name (s : ByteArray) (w : World) (hs : s.size ≤ 1048576) :
    Calls Tryz.prog 33 #[.string s] w (Same (.bool (nameL s.data.toList)) w) := by
  generalize hR : nameL s.data.toList = R
  have HR := Lib.hid hR
  clear hR
  by_cases h0 : s.size = 0
  · obtain rfl : s = ⟨#[]⟩ := empty_of_size h0
    have hR : R = false := by rw [← HR.out]; rfl
    subst hR
    clear HR
    go_enter Tryz.func33, Tryz.ntmps33
    go_wp2
    go_ret
    exact ⟨rfl, rfl⟩
  · have hne := nonempty_str h0
    by_cases h24 : s.size ≤ 24
    · cases hl : letB (s[0]'(by omega)).toNat
      · have hR : R = false := by rw [← HR.out, nameL_eq s h0, hl]; simp
        subst hR
        clear HR
        go_enter Tryz.func33, Tryz.ntmps33
        go_wp2_with (go_at_call 96; refine (f96_letter _ _).mono ?_; rintro e w' ⟨rfl, rfl⟩)
        go_ret
        exact ⟨rfl, rfl⟩
      · have hRR : R = s.data.toList.all wordU := by rw [← HR.out, nameL_eq s h0, hl]; simp [h24]
        have HA := Lib.hid hRR
        clear HR hRR
        go_enter Tryz.func33, Tryz.ntmps33
        go_wp2_with (go_at_call 96; refine (f96_letter _ _).mono ?_; rintro e w' ⟨rfl, rfl⟩)
        go_loop [3] (fun n => ∃ k : Nat, k ≤ s.size ∧ n = .int .i64 k ∧ Hid (R = (s.data.toList.drop k).all wordU)) (fun n => s.size - (intOf n).toNat)
        case atStart => exact ⟨0, by omega, rfl, by simpa using HA⟩
        case round =>
          clear hl
          obtain ⟨k, hk, rfl, H⟩ := hrel
          by_cases hlt : k < s.size
          · have hd := Lib.hid (drop_cons s k hlt)
            cases hl2 : letB s[k].toNat
            · by_cases hdg : 48 ≤ (s[k].toNat : Int) ∧ (s[k].toNat : Int) ≤ 57
              · obtain ⟨hdg1, hdg2⟩ := hdg
                have HD : Hid (digB s[k].toNat = true) := by unfold Hid digB; simp; omega
                go_wp2_with (go_at_call 96; refine (f96_letter _ _).mono ?_; rintro e w' ⟨rfl, rfl⟩)
                go_round
                case rel =>
                  refine ⟨k + 1, by omega, by go_num, ?_⟩
                  have h1 := H.out
                  rw [hd.out, List.all_cons] at h1
                  unfold Hid
                  simpa [wordU, hl2, HD.out] using h1
                case measure => simp [intOf]; omega
              · have HD : Hid (digB s[k].toNat = false) := by unfold Hid digB; simp; omega
                have hR : R = false := by rw [H.out, hd.out, List.all_cons]; simp [wordU, hl2, HD.out]
                subst hR
                by_cases h48 : 48 ≤ (s[k].toNat : Int)
                · have h57 : 57 < (s[k].toNat : Int) := by omega
                  go_wp2_with (go_at_call 96; refine (f96_letter _ _).mono ?_; rintro e w' ⟨rfl, rfl⟩)
                  go_ret
                  exact ⟨rfl, rfl⟩
                · go_wp2_with (go_at_call 96; refine (f96_letter _ _).mono ?_; rintro e w' ⟨rfl, rfl⟩)
                  go_ret
                  exact ⟨rfl, rfl⟩
            · go_wp2_with (go_at_call 96; refine (f96_letter _ _).mono ?_; rintro e w' ⟨rfl, rfl⟩)
              go_round
              case rel =>
                refine ⟨k + 1, by omega, by go_num, ?_⟩
                have h1 := H.out
                rw [hd.out, List.all_cons] at h1
                unfold Hid
                simpa [wordU, hl2] using h1
              case measure => simp [intOf]; omega
          · have hR : R = true := by rw [H.out, drop_end s k (by omega)]; rfl
            subst hR
            go_wp2
            go_ret
            exact ⟨rfl, rfl⟩
    · have hR : R = false := by rw [← HR.out]; simp [nameL, h24]
      subst hR
      clear HR
      go_enter Tryz.func33, Tryz.ntmps33
      go_wp2
      go_ret
      exact ⟨rfl, rfl⟩

abbrev nameSet : List UInt8 := [97, 98, 99, 100, 101, 102, 103, 104, 105, 106, 107, 108, 109, 110, 111, 112, 113, 114, 115, 116, 117, 118, 119, 120, 121, 122, 65, 66, 67, 68, 69, 70, 71, 72, 73, 74, 75, 76, 77, 78, 79, 80, 81, 82, 83, 84, 85, 86, 87, 88, 89, 90, 48, 49, 50, 51, 52, 53, 54, 55, 56, 57, 95]
abbrev nameArr : Array UInt8 := #[97, 98, 99, 100, 101, 102, 103, 104, 105, 106, 107, 108, 109, 110, 111, 112, 113, 114, 115, 116, 117, 118, 119, 120, 121, 122, 65, 66, 67, 68, 69, 70, 71, 72, 73, 74, 75, 76, 77, 78, 79, 80, 81, 82, 83, 84, 85, 86, 87, 88, 89, 90, 48, 49, 50, 51, 52, 53, 54, 55, 56, 57, 95]
theorem wordU_set (c : UInt8) : (nameSet : List UInt8).contains c = wordU c := by
  obtain ⟨⟨n, hn⟩⟩ := c
  revert n
  decide +kernel
theorem dropWhile_nil {α : Type} (p : α → Bool) (l : List α) : l.dropWhile p = [] ↔ l.all p = true := by
  induction l with
  | nil => simp
  | cons a l ih =>
    rw [List.dropWhile_cons]
    cases h : p a <;> simp [h, ih]
theorem trim_nil (l : List UInt8) : ((Lib.trimS l nameSet) = []) ↔ l.all wordU = true := by
  have hp : (fun x => (nameSet : List UInt8).contains x) = wordU := by funext c; exact wordU_set c
  unfold Lib.trimS Lib.trimLeftS Lib.trimRightS
  simp only [hp]
  rw [dropWhile_nil, List.all_reverse, ← dropWhile_all]
where
  dropWhile_all : (List.dropWhile wordU l.reverse).all wordU = true ↔ l.all wordU = true := by
    constructor
    · intro h
      rw [← List.all_reverse, ← List.takeWhile_append_dropWhile (p := wordU) (l := l.reverse), List.all_append, h, Bool.and_true]
      simp
    · intro h
      rw [← List.all_reverse, ← List.takeWhile_append_dropWhile (p := wordU) (l := l.reverse), List.all_append] at h
      simp only [Bool.and_eq_true] at h
      exact h.2
theorem nameL_eq2 (s : ByteArray) (h : ¬ s.size = 0) : nameL s.data.toList = (decide (s.size ≤ 24) && !digB (s[0]'(by omega)).toNat && s.data.toList.all wordU) := by
  rw [nameL_eq s h]
  have hd := drop_cons s 0 (by omega)
  rw [List.drop_zero] at hd
  rw [hd, List.all_cons]
  have : ∀ c : UInt8, letB c.toNat = (wordU c && !digB c.toNat) := by
    intro c
    unfold wordU
    rw [Bool.eq_iff_iff]
    simp [letB, digB]
    omega
  rw [this]
  cases wordU (s[0]'(by omega)) <;> cases digB (s[0]'(by omega)).toNat <;> simp
theorem f32_trim (s : ByteArray) (w : World) (hs : s.size ≤ 1048576) :
    Calls Tryz.prog 95 #[.string s, .string ⟨nameArr⟩] w (Ret (.string ⟨(Lib.trimS s.data.toList nameSet).toArray⟩) w) :=
  Any.strings_Trim_laid Tryz.lays160 (by kernel_rfl) s ⟨nameArr⟩ w (by omega) (by decide) (ascii_of_all (by decide +kernel))
theorem isEmpty_of (l : List UInt8) : (ByteArray.toList ⟨l.toArray⟩).isEmpty = decide (l = []) := by
  rw [Lib.toList_data]
  cases l <;> simp
set_option maxHeartbeats 400000 in
theorem f32_Name (s : ByteArray) (w : World) (hs : s.size ≤ 1048576) :
    Calls Tryz.prog 32 #[.string s] w (Ret (.bool (nameL s.data.toList)) w) := by
  generalize hR : nameL s.data.toList = R
  have HR := Lib.hid hR
  clear hR
  by_cases h0 : s.size = 0
  · obtain rfl : s = ⟨#[]⟩ := empty_of_size h0
    have hR : R = false := by rw [← HR.out]; rfl
    subst hR
    clear HR
    go_enter Tryz.func32, Tryz.ntmps32
    go_wp2
    go_ret
    exact ⟨rfl, Below.refl _ _⟩
  · have hne := nonempty_str h0
    have hp : 0 < s.size := by omega
    by_cases h24 : s.size ≤ 24
    · have hRR := nameL_eq2 s h0
      rw [HR.out] at hRR
      by_cases hdg : 48 ≤ ((s[0]'hp).toNat : Int) ∧ ((s[0]'hp).toNat : Int) ≤ 57
      · have HD : digB (s[0]'hp).toNat = true := by unfold digB; simp; omega
        have hR : R = false := by rw [hRR, HD]; simp
        subst hR
        clear HR hRR HD
        obtain ⟨hdg1, hdg2⟩ := hdg
        go_enter Tryz.func32, Tryz.ntmps32
        go_wp2_with fail
        go_ret
        exact ⟨rfl, Below.refl _ _⟩
      · have HD : digB (s[0]'hp).toNat = false := by unfold digB; simp; omega
        have HA : Hid (R = s.data.toList.all wordU) := by unfold Hid; rw [hRR, HD]; simp [h24]
        clear HR hRR HD
        have hfin : Hid ((Lib.trimS s.data.toList nameSet).isEmpty = R) := by
          unfold Hid; rw [HA.out, Bool.eq_iff_iff, ← trim_nil, List.isEmpty_iff]
        have h24i : (s.size : Int) ≤ 24 := by omega
        by_cases h48 : 48 ≤ ((s[0]'hp).toNat : Int)
        · have h58 : 57 < ((s[0]'hp).toNat : Int) := by omega
          clear hdg
          go_enter Tryz.func32, Tryz.ntmps32
          go_wp2_with (go_at_call 95; refine (f32_trim s _ hs).mono ?_)
          rintro e w' ⟨rfl, hb⟩
          go_wp2
          go_ret
          exact ret_bool hfin.out hb
        · have h49 : ((s[0]'hp).toNat : Int) < 48 := by omega
          clear hdg h48
          go_enter Tryz.func32, Tryz.ntmps32
          go_wp2_with (go_at_call 95; refine (f32_trim s _ hs).mono ?_)
          rintro e w' ⟨rfl, hb⟩
          go_wp2
          go_ret
          exact ret_bool hfin.out hb
    · have hR : R = false := by rw [← HR.out]; simp [nameL, h24]
      subst hR
      clear HR
      go_enter Tryz.func32, Tryz.ntmps32
      go_wp2
      go_ret
      exact ⟨rfl, Below.refl _ _⟩
end Go.Proofs.YtijgmloodkbljaaGreatDoor
