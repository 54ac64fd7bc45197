import Derived.Test.YtijgmloodkbljaaGreatDoorLbA
import Derived.Test.YtijgmloodkbljaaGreatDoorShf
import Derived.OwnWalk
import Derived.Lib.Hide
import Derived.Handy
import Derived.Shelf.Strings.SlTrimAscii
namespace Go.Proofs.YtijgmloodkbljaaGreatDoor
open Go Go.RowKit

/-- The call returns v and leaves the world as it is. -/
def Same (v : Value) (w : World) (e : Ending) (w' : World) : Prop := e = .returned v ∧ w = w'
theorem same_bool {a b : Bool} {w : World} (h : a = b) : Same (.bool b) w (.returned (.bool a)) w := by subst h; exact ⟨rfl, rfl⟩
theorem same_int {k : IntKind} {a b : Int} {w : World} (h : a = b) : Same (.int k b) w (.returned (.int k a)) w := by subst h; exact ⟨rfl, rfl⟩

def letB (c : Int) : Bool := decide (97 ≤ c ∧ c ≤ 122 ∨ 65 ≤ c ∧ c ≤ 90 ∨ c = 95)
def digB (c : Int) : Bool := decide (48 ≤ c ∧ c ≤ 57)

theorem f303_isLetter (c : Int) (w : World) : Calls Tryz.prog 303 #[.int .u8 c] w (Same (.bool (letB c)) w) := by
  go_enter Tryz.func303, Tryz.ntmps303
  go_wp2
  all_goals (go_ret; exact same_bool (by rw [Bool.eq_iff_iff]; simp [letB]; omega))
theorem f310_digit (c : Int) (w : World) : Calls Tryz.prog 310 #[.int .u8 c] w (Same (.bool (digB c)) w) := by
  go_enter Tryz.func310, Tryz.ntmps310
  go_wp2
  all_goals (go_ret; exact same_bool (by rw [Bool.eq_iff_iff]; simp [digB]; omega))
theorem f347_isWord (c : Int) (w : World) : Calls Tryz.prog 347 #[.int .u8 c] w (Same (.bool (letB c || digB c)) w) := by
  have hl : letB c = true ∨ letB c = false := by cases letB c <;> simp
  go_enter Tryz.func347, Tryz.ntmps347
  rcases hl with hl | hl
  all_goals
    go_wp2_with (go_at_call 303; refine (f303_isLetter _ _).mono ?_; rintro e w' ⟨rfl, rfl⟩)
  all_goals (go_ret; exact same_bool (by rw [Bool.eq_iff_iff]; simp [digB, hl]; try omega))
theorem f96_letter (c : Int) (w : World) : Calls Tryz.prog 96 #[.int .u8 c] w (Same (.bool (letB c)) w) := by
  go_enter Tryz.func96, Tryz.ntmps96
  go_wp2
  all_goals (go_ret; exact same_bool (by rw [Bool.eq_iff_iff]; simp [letB]; omega))
theorem f197_letter (c : Int) (w : World) : Calls Tryz.prog 197 #[.int .u8 c] w (Same (.bool (letB c)) w) := by
  go_enter Tryz.func197, Tryz.ntmps197
  go_wp2
  all_goals (go_ret; exact same_bool (by rw [Bool.eq_iff_iff]; simp [letB]; omega))
theorem f244_digit (c : Int) (w : World) : Calls Tryz.prog 244 #[.int .u8 c] w (Same (.bool (digB c)) w) := by
  go_enter Tryz.func244, Tryz.ntmps244
  go_wp2
  all_goals (go_ret; exact same_bool (by rw [Bool.eq_iff_iff]; simp [digB]; omega))
theorem f259_digit (c : Int) (w : World) : Calls Tryz.prog 259 #[.int .u8 c] w (Same (.bool (digB c)) w) := by
  go_enter Tryz.func259, Tryz.ntmps259
  go_wp2
  all_goals (go_ret; exact same_bool (by rw [Bool.eq_iff_iff]; simp [digB]; omega))

theorem drop_cons (s : ByteArray) (k : Nat) (h : k < s.size) : s.data.toList.drop k = s[k] :: s.data.toList.drop (k + 1) := by
  rw [List.drop_eq_getElem_cons (by simpa using h)]; rfl
theorem drop_end (s : ByteArray) (k : Nat) (h : s.size ≤ k) : s.data.toList.drop k = [] := List.drop_eq_nil_of_le (by simpa using h)

def wordU (c : UInt8) : Bool := letB c.toNat || digB c.toNat
/-- How many bytes of letters and digits a list begins with. -/
def run (l : List UInt8) : Nat := (l.takeWhile wordU).length
theorem run_cons (c : UInt8) (l : List UInt8) : run (c :: l) = if wordU c = true then run l + 1 else 0 := by
  unfold run; rw [List.takeWhile_cons]; split <;> simp
theorem run_le (l : List UInt8) : run l ≤ l.length := (List.takeWhile_sublist _).length_le

set_option maxHeartbeats 400000 in
theorem f304_words (s : ByteArray) (a : Nat) (w : World) (hs : s.size ≤ 9223372036854775807) (ha : a ≤ s.size) :
    Calls Tryz.prog 304 #[.string s, .int .i64 a] w (Same (.int .i64 (run (s.data.toList.drop a))) w) := by
  have hrl := run_le (s.data.toList.drop a)
  go_enter Tryz.func304, Tryz.ntmps304
  go_wp2
  go_loop [5] (fun n => ∃ k : Nat, k ≤ s.size ∧ a ≤ k ∧ n = .int .i64 k ∧ Hid (run (s.data.toList.drop a) = (k - a) + run (s.data.toList.drop k))) (fun n => s.size - (intOf n).toNat)
  case atStart => exact ⟨a, ha, Nat.le_refl _, rfl, by unfold Hid; omega⟩
  case round =>
    obtain ⟨k, hk, hak, rfl, H⟩ := hrel
    by_cases hlt : k < s.size
    · have hc := Lib.hid (run_cons s[k] (s.data.toList.drop (k + 1)))
      have hd := Lib.hid (drop_cons s k hlt)
      cases hw : (letB s[k].toNat || digB s[k].toNat)
      · go_wp2_with (go_at_call 347; refine (f347_isWord _ _).mono ?_; rintro e w' ⟨rfl, rfl⟩)
        go_ret
        have h1 := H.out
        rw [hd.out, hc.out, if_neg (by unfold wordU; rw [hw]; simp)] at h1
        exact same_int (by omega)
      · go_wp2_with (go_at_call 347; refine (f347_isWord _ _).mono ?_; rintro e w' ⟨rfl, rfl⟩)
        go_round
        case rel =>
          refine ⟨k + 1, by omega, by omega, by go_num, ?_⟩
          have h1 := H.out
          rw [hd.out, hc.out, if_pos (by unfold wordU; rw [hw])] at h1
          unfold Hid; omega
        case measure => simp [intOf]; omega
    · have hd := Lib.hid (drop_end s k (by omega))
      go_wp2
      go_ret
      have h1 := H.out
      rw [hd.out] at h1
      exact same_int (by simp [run] at h1 ⊢; omega)
end Go.Proofs.YtijgmloodkbljaaGreatDoor

namespace Go.Proofs.YtijgmloodkbljaaGreatDoor
open Go Go.RowKit

def markB (c : Int) : Bool := decide (c = 46 ∨ c = 40 ∨ c = 41 ∨ c = 44 ∨ c = 91 ∨ c = 93 ∨ c = 123 ∨ c = 125 ∨ c = 58 ∨ c = 61 ∨ c = 59)

theorem indexByte_mark (c : Int) (h0 : 0 ≤ c) (h1 : c ≤ 255) : decide (0 ≤ Lib.indexByte [46, 40, 41, 44, 91, 93, 123, 125, 58, 61, 59] c.toNat.toUInt8) = markB c := by
  obtain ⟨n, rfl⟩ := Int.eq_ofNat_of_zero_le h0
  have hn : n < 256 := by omega
  clear h0 h1
  simp only [Int.toNat_natCast]
  revert n
  decide +kernel

theorem f72_isMark (c : Int) (w : World) (h0 : 0 ≤ c) (h1 : c ≤ 255) : Calls Tryz.prog 72 #[.int .u8 c] w (Same (.bool (markB c)) w) := by
  have hm := Lib.hid (indexByte_mark c h0 h1)
  go_enter Tryz.func72, Tryz.ntmps72
  go_wp2_with (go_at_call 157; refine (Tryz.strings_IndexByte _ _ _).mono ?_; rintro e w' ⟨rfl, rfl⟩)
  go_ret
  exact same_bool hm.out

theorem mark0 (h : 0 < ({ data := #[46, 40, 41, 44, 91, 93, 123, 125, 58, 61, 59] } : ByteArray).size) : ((({ data := #[46, 40, 41, 44, 91, 93, 123, 125, 58, 61, 59] } : ByteArray)[0]'h).toNat : Int) = 46 := rfl
theorem mark1 (h : 1 < ({ data := #[46, 40, 41, 44, 91, 93, 123, 125, 58, 61, 59] } : ByteArray).size) : ((({ data := #[46, 40, 41, 44, 91, 93, 123, 125, 58, 61, 59] } : ByteArray)[1]'h).toNat : Int) = 40 := rfl
theorem mark2 (h : 2 < ({ data := #[46, 40, 41, 44, 91, 93, 123, 125, 58, 61, 59] } : ByteArray).size) : ((({ data := #[46, 40, 41, 44, 91, 93, 123, 125, 58, 61, 59] } : ByteArray)[2]'h).toNat : Int) = 41 := rfl
theorem mark3 (h : 3 < ({ data := #[46, 40, 41, 44, 91, 93, 123, 125, 58, 61, 59] } : ByteArray).size) : ((({ data := #[46, 40, 41, 44, 91, 93, 123, 125, 58, 61, 59] } : ByteArray)[3]'h).toNat : Int) = 44 := rfl
theorem mark4 (h : 4 < ({ data := #[46, 40, 41, 44, 91, 93, 123, 125, 58, 61, 59] } : ByteArray).size) : ((({ data := #[46, 40, 41, 44, 91, 93, 123, 125, 58, 61, 59] } : ByteArray)[4]'h).toNat : Int) = 91 := rfl
theorem mark5 (h : 5 < ({ data := #[46, 40, 41, 44, 91, 93, 123, 125, 58, 61, 59] } : ByteArray).size) : ((({ data := #[46, 40, 41, 44, 91, 93, 123, 125, 58, 61, 59] } : ByteArray)[5]'h).toNat : Int) = 93 := rfl
theorem mark6 (h : 6 < ({ data := #[46, 40, 41, 44, 91, 93, 123, 125, 58, 61, 59] } : ByteArray).size) : ((({ data := #[46, 40, 41, 44, 91, 93, 123, 125, 58, 61, 59] } : ByteArray)[6]'h).toNat : Int) = 123 := rfl
theorem mark7 (h : 7 < ({ data := #[46, 40, 41, 44, 91, 93, 123, 125, 58, 61, 59] } : ByteArray).size) : ((({ data := #[46, 40, 41, 44, 91, 93, 123, 125, 58, 61, 59] } : ByteArray)[7]'h).toNat : Int) = 125 := rfl
theorem mark8 (h : 8 < ({ data := #[46, 40, 41, 44, 91, 93, 123, 125, 58, 61, 59] } : ByteArray).size) : ((({ data := #[46, 40, 41, 44, 91, 93, 123, 125, 58, 61, 59] } : ByteArray)[8]'h).toNat : Int) = 58 := rfl
theorem mark9 (h : 9 < ({ data := #[46, 40, 41, 44, 91, 93, 123, 125, 58, 61, 59] } : ByteArray).size) : ((({ data := #[46, 40, 41, 44, 91, 93, 123, 125, 58, 61, 59] } : ByteArray)[9]'h).toNat : Int) = 61 := rfl
theorem mark10 (h : 10 < ({ data := #[46, 40, 41, 44, 91, 93, 123, 125, 58, 61, 59] } : ByteArray).size) : ((({ data := #[46, 40, 41, 44, 91, 93, 123, 125, 58, 61, 59] } : ByteArray)[10]'h).toNat : Int) = 59 := rfl
set_option maxHeartbeats 1000000 in
theorem f73_mark (c : Int) (w : World) : Calls Tryz.prog 73 #[.int .u8 c] w (Same (.bool (markB c)) w) := by
  go_enter Tryz.func73, Tryz.ntmps73
  go_wp2
  go_rounds 12
  all_goals (go_ret; exact same_bool (by simp only [mark0, mark1, mark2, mark3, mark4, mark5, mark6, mark7, mark8, mark9, mark10, beq_iff_eq, beq_eq_false_iff_ne, ne_eq] at *; simp [markB]; omega))

def closedL : List UInt8 → Nat → Nat
  | [], _ => 0
  | [c], i => if c = 92 then 0 else if c = 39 then i + 1 else 0
  | c :: d :: l, i => if c = 92 then closedL l (i + 2) else if c = 39 then i + 1 else closedL (d :: l) (i + 1)

theorem closedL_cons (c : UInt8) (l : List UInt8) (i : Nat) : closedL (c :: l) i = if c = 92 then closedL (l.drop 1) (i + 2) else if c = 39 then i + 1 else closedL l (i + 1) := by
  cases l <;> simp [closedL]

set_option maxHeartbeats 400000 in
theorem f305_closed (s : ByteArray) (w : World) (hs : s.size ≤ 1048576) :
    Calls Tryz.prog 305 #[.string s] w (Same (.int .i64 (closedL (s.data.toList.drop 1) 1)) w) := by
  generalize hR : closedL (s.data.toList.drop 1) 1 = R
  have HR := Lib.hid hR
  clear hR
  go_enter Tryz.func305, Tryz.ntmps305
  go_wp2
  go_loop [3] (fun n => ∃ k : Nat, k ≤ s.size + 1 ∧ n = .int .i64 k ∧ Hid (closedL (s.data.toList.drop k) k = R)) (fun n => s.size + 1 - (intOf n).toNat)
  case atStart => exact ⟨1, by omega, rfl, HR.out⟩
  case round =>
    obtain ⟨k, hk, rfl, H⟩ := hrel
    by_cases hlt : k < s.size
    · have hc := Lib.hid (closedL_cons s[k] (s.data.toList.drop (k + 1)) k)
      have hd := Lib.hid (drop_cons s k hlt)
      go_wp2
      · have h1 := H.out
        rw [hd.out, hc.out, if_pos (by have : (s[k].toNat : Int) = 92 := by simpa using (by assumption : ((s[k].toNat : Int) == 92) = true)
                                       exact UInt8.toNat_inj.1 (by simp; omega)), List.drop_drop] at h1
        go_round
        case rel => exact ⟨k + 2, by omega, by go_num, h1⟩
        case measure => simp [intOf]; omega
      · have h1 := H.out
        have e1 : (s[k].toNat : Int) ≠ 92 := by simpa using (by assumption : ((s[k].toNat : Int) == 92) = false)
        have e2 : (s[k].toNat : Int) = 39 := by simpa using (by assumption : ((s[k].toNat : Int) == 39) = true)
        rw [hd.out, hc.out, if_neg (fun h => e1 (by rw [h]; rfl)), if_pos (UInt8.toNat_inj.1 (by simp; omega))] at h1
        go_ret
        exact same_int (by omega)
      · have h1 := H.out
        have e1 : (s[k].toNat : Int) ≠ 92 := by simpa using (by assumption : ((s[k].toNat : Int) == 92) = false)
        have e2 : (s[k].toNat : Int) ≠ 39 := by simpa using (by assumption : ((s[k].toNat : Int) == 39) = false)
        rw [hd.out, hc.out, if_neg (fun h => e1 (by rw [h]; rfl)), if_neg (fun h => e2 (by rw [h]; rfl))] at h1
        go_round
        case rel => exact ⟨k + 1, by omega, by go_num, h1⟩
        case measure => simp [intOf]; omega
    · have hd := Lib.hid (drop_end s k (by omega))
      go_wp2
      go_ret
      have h1 := H.out
      rw [hd.out] at h1
      exact same_int (by rw [← h1]; simp [closedL])
end Go.Proofs.YtijgmloodkbljaaGreatDoor

namespace Go.Proofs.YtijgmloodkbljaaGreatDoor
open Go Go.RowKit

/-- The call returns v; below the heap's end nothing has turned. -/
def Ret (v : Value) (w : World) (e : Ending) (w' : World) : Prop := e = .returned v ∧ Below w.heap.size w w'
theorem ret_bool {a b : Bool} {w w' : World} (h : a = b) (hb : Below w.heap.size w w') : Ret (.bool b) w (.returned (.bool a)) w' := by subst h; exact ⟨rfl, hb⟩

def letU (c : UInt8) : Bool := letB c.toNat
def nameL (l : List UInt8) : Bool := decide (l ≠ [] ∧ l.length ≤ 24) && letU (l.headD 0) && l.all wordU

theorem data_len (s : ByteArray) : s.data.toList.length = s.size := by simp

theorem empty_of_size {s : ByteArray} (h : s.size = 0) : s = ⟨#[]⟩ := by
  obtain ⟨a⟩ := s
  have : a = #[] := Array.eq_empty_of_size_eq_zero h
  rw [this]
theorem nonempty_str {s : ByteArray} (h : ¬ s.size = 0) : s.toList.isEmpty = false := by
  rw [Lib.toList_data]
  cases hl : s.data.toList with
  | nil => exact absurd (by rw [← data_len, hl]; rfl) h
  | cons a l => rfl
theorem nameL_eq (s : ByteArray) (h : ¬ s.size = 0) : nameL s.data.toList = (decide (s.size ≤ 24) && letB (s[0]'(by omega)).toNat && s.data.toList.all wordU) := by
  unfold nameL
  have hd := drop_cons s 0 (by omega)
  rw [List.drop_zero] at hd
  have hne : s.data.toList ≠ [] := by rw [hd]; simp
  have hh : s.data.toList.headD 0 = s[0]'(by omega) := by rw [hd]; rfl
  rw [hh, data_len]
  simp [hne, letU]
set_option maxHeartbeats 400000 in
theorem f33_Name (s : ByteArray) (w : World) (hs : s.size ≤ 1048576) :
    Calls Tryz.prog 33 #[.string s] w (Same (.bool (nameL s.data.toList)) w) := by
  generalize hR : nameL s.data.toList = R
  have HR := Lib.hid hR
  clear hR
  by_cases h0 : s.size = 0
  · obtain rfl : s = ⟨#[]⟩ := empty_of_size h0
    have hR : R = false := by rw [← HR.out]; rfl
    subst hR
    clear HR
    go_enter Tryz.func33, Tryz.ntmps33
    go_wp2
    go_ret
    exact ⟨rfl, rfl⟩
  · have hne := nonempty_str h0
    by_cases h24 : s.size ≤ 24
    · cases hl : letB (s[0]'(by omega)).toNat
      · have hR : R = false := by rw [← HR.out, nameL_eq s h0, hl]; simp
        subst hR
        clear HR
        go_enter Tryz.func33, Tryz.ntmps33
        go_wp2_with (go_at_call 96; refine (f96_letter _ _).mono ?_; rintro e w' ⟨rfl, rfl⟩)
        go_ret
        exact ⟨rfl, rfl⟩
      · have hRR : R = s.data.toList.all wordU := by rw [← HR.out, nameL_eq s h0, hl]; simp [h24]
        have HA := Lib.hid hRR
        clear HR hRR
        go_enter Tryz.func33, Tryz.ntmps33
        go_wp2_with (go_at_call 96; refine (f96_letter _ _).mono ?_; rintro e w' ⟨rfl, rfl⟩)
        go_loop [3] (fun n => ∃ k : Nat, k ≤ s.size ∧ n = .int .i64 k ∧ Hid (R = (s.data.toList.drop k).all wordU)) (fun n => s.size - (intOf n).toNat)
        case atStart => exact ⟨0, by omega, rfl, by simpa using HA⟩
        case round =>
          clear hl
          obtain ⟨k, hk, rfl, H⟩ := hrel
          by_cases hlt : k < s.size
          · have hd := Lib.hid (drop_cons s k hlt)
            cases hl2 : letB s[k].toNat
            · by_cases hdg : 48 ≤ (s[k].toNat : Int) ∧ (s[k].toNat : Int) ≤ 57
              · obtain ⟨hdg1, hdg2⟩ := hdg
                have HD : Hid (digB s[k].toNat = true) := by unfold Hid digB; simp; omega
                go_wp2_with (go_at_call 96; refine (f96_letter _ _).mono ?_; rintro e w' ⟨rfl, rfl⟩)
                go_round
                case rel =>
                  refine ⟨k + 1, by omega, by go_num, ?_⟩
                  have h1 := H.out
                  rw [hd.out, List.all_cons] at h1
                  unfold Hid
                  simpa [wordU, hl2, HD.out] using h1
                case measure => simp [intOf]; omega
              · have HD : Hid (digB s[k].toNat = false) := by unfold Hid digB; simp; omega
                have hR : R = false := by rw [H.out, hd.out, List.all_cons]; simp [wordU, hl2, HD.out]
                subst hR
                by_cases h48 : 48 ≤ (s[k].toNat : Int)
                · have h57 : 57 < (s[k].toNat : Int) := by omega
                  go_wp2_with (go_at_call 96; refine (f96_letter _ _).mono ?_; rintro e w' ⟨rfl, rfl⟩)
                  go_ret
                  exact ⟨rfl, rfl⟩
                · go_wp2_with (go_at_call 96; refine (f96_letter _ _).mono ?_; rintro e w' ⟨rfl, rfl⟩)
                  go_ret
                  exact ⟨rfl, rfl⟩
            · go_wp2_with (go_at_call 96; refine (f96_letter _ _).mono ?_; rintro e w' ⟨rfl, rfl⟩)
              go_round
              case rel =>
                refine ⟨k + 1, by omega, by go_num, ?_⟩
                have h1 := H.out
                rw [hd.out, List.all_cons] at h1
                unfold Hid
                simpa [wordU, hl2] using h1
              case measure => simp [intOf]; omega
          · have hR : R = true := by rw [H.out, drop_end s k (by omega)]; rfl
            subst hR
            go_wp2
            go_ret
            exact ⟨rfl, rfl⟩
    · have hR : R = false := by rw [← HR.out]; simp [nameL, h24]
      subst hR
      clear HR
      go_enter Tryz.func33, Tryz.ntmps33
      go_wp2
      go_ret
      exact ⟨rfl, rfl⟩

abbrev nameSet : List UInt8 := [97, 98, 99, 100, 101, 102, 103, 104, 105, 106, 107, 108, 109, 110, 111, 112, 113, 114, 115, 116, 117, 118, 119, 120, 121, 122, 65, 66, 67, 68, 69, 70, 71, 72, 73, 74, 75, 76, 77, 78, 79, 80, 81, 82, 83, 84, 85, 86, 87, 88, 89, 90, 48, 49, 50, 51, 52, 53, 54, 55, 56, 57, 95]
abbrev nameArr : Array UInt8 := #[97, 98, 99, 100, 101, 102, 103, 104, 105, 106, 107, 108, 109, 110, 111, 112, 113, 114, 115, 116, 117, 118, 119, 120, 121, 122, 65, 66, 67, 68, 69, 70, 71, 72, 73, 74, 75, 76, 77, 78, 79, 80, 81, 82, 83, 84, 85, 86, 87, 88, 89, 90, 48, 49, 50, 51, 52, 53, 54, 55, 56, 57, 95]
theorem wordU_set (c : UInt8) : (nameSet : List UInt8).contains c = wordU c := by
  obtain ⟨⟨n, hn⟩⟩ := c
  revert n
  decide +kernel
theorem dropWhile_nil {α : Type} (p : α → Bool) (l : List α) : l.dropWhile p = [] ↔ l.all p = true := by
  induction l with
  | nil => simp
  | cons a l ih =>
    rw [List.dropWhile_cons]
    cases h : p a <;> simp [h, ih]
theorem trim_nil (l : List UInt8) : ((Lib.trimS l nameSet) = []) ↔ l.all wordU = true := by
  have hp : (fun x => (nameSet : List UInt8).contains x) = wordU := by funext c; exact wordU_set c
  unfold Lib.trimS Lib.trimLeftS Lib.trimRightS
  simp only [hp]
  rw [dropWhile_nil, List.all_reverse, ← dropWhile_all]
where
  dropWhile_all : (List.dropWhile wordU l.reverse).all wordU = true ↔ l.all wordU = true := by
    constructor
    · intro h
      rw [← List.all_reverse, ← List.takeWhile_append_dropWhile (p := wordU) (l := l.reverse), List.all_append, h, Bool.and_true]
      simp
    · intro h
      rw [← List.all_reverse, ← List.takeWhile_append_dropWhile (p := wordU) (l := l.reverse), List.all_append] at h
      simp only [Bool.and_eq_true] at h
      exact h.2
theorem nameL_eq2 (s : ByteArray) (h : ¬ s.size = 0) : nameL s.data.toList = (decide (s.size ≤ 24) && !digB (s[0]'(by omega)).toNat && s.data.toList.all wordU) := by
  rw [nameL_eq s h]
  have hd := drop_cons s 0 (by omega)
  rw [List.drop_zero] at hd
  rw [hd, List.all_cons]
  have : ∀ c : UInt8, letB c.toNat = (wordU c && !digB c.toNat) := by
    intro c
    unfold wordU
    rw [Bool.eq_iff_iff]
    simp [letB, digB]
    omega
  rw [this]
  cases wordU (s[0]'(by omega)) <;> cases digB (s[0]'(by omega)).toNat <;> simp
theorem f32_trim (s : ByteArray) (w : World) (hs : s.size ≤ 1048576) :
    Calls Tryz.prog 95 #[.string s, .string ⟨nameArr⟩] w (Ret (.string ⟨(Lib.trimS s.data.toList nameSet).toArray⟩) w) :=
  Any.strings_Trim_laid Tryz.lays160 (by kernel_rfl) s ⟨nameArr⟩ w (by omega) (by decide) (ascii_of_all (by decide +kernel))
theorem isEmpty_of (l : List UInt8) : (ByteArray.toList ⟨l.toArray⟩).isEmpty = decide (l = []) := by
  rw [Lib.toList_data]
  cases l <;> simp
set_option maxHeartbeats 400000 in
theorem f32_Name (s : ByteArray) (w : World) (hs : s.size ≤ 1048576) :
    Calls Tryz.prog 32 #[.string s] w (Ret (.bool (nameL s.data.toList)) w) := by
  generalize hR : nameL s.data.toList = R
  have HR := Lib.hid hR
  clear hR
  by_cases h0 : s.size = 0
  · obtain rfl : s = ⟨#[]⟩ := empty_of_size h0
    have hR : R = false := by rw [← HR.out]; rfl
    subst hR
    clear HR
    go_enter Tryz.func32, Tryz.ntmps32
    go_wp2
    go_ret
    exact ⟨rfl, Below.refl _ _⟩
  · have hne := nonempty_str h0
    have hp : 0 < s.size := by omega
    by_cases h24 : s.size ≤ 24
    · have hRR := nameL_eq2 s h0
      rw [HR.out] at hRR
      by_cases hdg : 48 ≤ ((s[0]'hp).toNat : Int) ∧ ((s[0]'hp).toNat : Int) ≤ 57
      · have HD : digB (s[0]'hp).toNat = true := by unfold digB; simp; omega
        have hR : R = false := by rw [hRR, HD]; simp
        subst hR
        clear HR hRR HD
        obtain ⟨hdg1, hdg2⟩ := hdg
        go_enter Tryz.func32, Tryz.ntmps32
        go_wp2_with fail
        go_ret
        exact ⟨rfl, Below.refl _ _⟩
      · have HD : digB (s[0]'hp).toNat = false := by unfold digB; simp; omega
        have HA : Hid (R = s.data.toList.all wordU) := by unfold Hid; rw [hRR, HD]; simp [h24]
        clear HR hRR HD
        have hfin : Hid ((Lib.trimS s.data.toList nameSet).isEmpty = R) := by
          unfold Hid; rw [HA.out, Bool.eq_iff_iff, ← trim_nil, List.isEmpty_iff]
        have h24i : (s.size : Int) ≤ 24 := by omega
        by_cases h48 : 48 ≤ ((s[0]'hp).toNat : Int)
        · have h58 : 57 < ((s[0]'hp).toNat : Int) := by omega
          clear hdg
          go_enter Tryz.func32, Tryz.ntmps32
          go_wp2_with (go_at_call 95; refine (f32_trim s _ hs).mono ?_)
          rintro e w' ⟨rfl, hb⟩
          go_wp2
          go_ret
          exact ret_bool hfin.out hb
        · have h49 : ((s[0]'hp).toNat : Int) < 48 := by omega
          clear hdg h48
          go_enter Tryz.func32, Tryz.ntmps32
          go_wp2_with (go_at_call 95; refine (f32_trim s _ hs).mono ?_)
          rintro e w' ⟨rfl, hb⟩
          go_wp2
          go_ret
          exact ret_bool hfin.out hb
    · have hR : R = false := by rw [← HR.out]; simp [nameL, h24]
      subst hR
      clear HR
      go_enter Tryz.func32, Tryz.ntmps32
      go_wp2
      go_ret
      exact ⟨rfl, Below.refl _ _⟩
end Go.Proofs.YtijgmloodkbljaaGreatDoor

namespace Go.Proofs.YtijgmloodkbljaaGreatDoor
open Go Go.RowKit

structure Tok where
  kind : Int
  text : ByteArray
  n : Int
  pos : Int

abbrev Tok.val (t : Tok) : Value := .agg #[.int .i64 t.kind, .string t.text, .int .i64 t.n, .int .i64 t.pos]

def kindOk (k : Int) (s : List UInt8) : Bool :=
  if k = 1 then nameL s else if k = 2 then decide (s = []) else if k = 3 then decide (s.length ≤ 128) else if k = 4 then (match s with | [c] => markB c.toNat | _ => false) else false
def Tok.ok (t : Tok) : Bool := decide (0 ≤ t.pos ∧ (t.n = 0 ∨ t.kind = 2)) && kindOk t.kind t.text.data.toList
def checkE (b : Bool) : Int := if b = true then 0 else 150

theorem ret_int {k : IntKind} {a b : Int} {w w' : World} (h : a = b) (hb : Below w.heap.size w w') : Ret (.int k b) w (.returned (.int k a)) w' := by subst h; exact ⟨rfl, hb⟩

theorem below_box {w w1 : World} {o : Obj} (h : Below (w.alloc o).heap.size (w.alloc o) w1) : Below w.heap.size w w1 :=
  ((Below.refl _ _).alloc (Nat.le_refl _) _).trans (h.mono (by simp))
theorem one_byte (s : ByteArray) (h : s.size = 1) : s.data.toList = [s[0]'(by omega)] := by
  have hd := drop_cons s 0 (by omega)
  rw [List.drop_zero, drop_end s 1 (by omega)] at hd
  exact hd

theorem byte_bounds (c : UInt8) : 0 ≤ (c.toNat : Int) ∧ (c.toNat : Int) ≤ 255 := by
  have := c.toNat_lt
  omega

set_option maxHeartbeats 1000000 in
theorem f15_Check (k : Int) (s : ByteArray) (n p : Int) (w : World) (hs : s.size ≤ 1048576) :
    Calls Tryz.prog 15 #[.agg #[.int .i64 k, .string s, .int .i64 n, .int .i64 p]] w (Ret (.int .i64 (checkE (Tok.ok ⟨k, s, n, p⟩))) w) := by
  generalize hR : checkE (Tok.ok ⟨k, s, n, p⟩) = R
  have HR := Lib.hid hR
  clear hR
  by_cases hp : p < 0
  · have hR : R = 150 := by rw [← HR.out]; simp [Tok.ok, checkE]; omega
    subst hR
    clear HR
    go_enter Tryz.func15, Tryz.ntmps15
    go_wp2
    go_ret
    exact ⟨rfl, (Below.refl _ _).alloc (Nat.le_refl _) _⟩
  · have hp' : 0 ≤ p := by omega
    clear hp
    by_cases hk2 : k = 2
    · subst hk2
      have hR : R = checkE (decide (s.data.toList = [])) := by rw [← HR.out]; simp [Tok.ok, kindOk, hp']
      by_cases h0 : s.size = 0
      · obtain rfl : s = ⟨#[]⟩ := empty_of_size h0
        have hR : R = 0 := by rw [hR]; rfl
        subst hR
        clear HR
        by_cases hn : n = 0
        · subst hn
          go_enter Tryz.func15, Tryz.ntmps15
          go_wp2
          go_ret
          exact ⟨rfl, (Below.refl _ _).alloc (Nat.le_refl _) _⟩
        · have hn1 : (n != 0) = true := by simpa using hn
          go_enter Tryz.func15, Tryz.ntmps15
          go_wp2
          go_ret
          exact ⟨rfl, (Below.refl _ _).alloc (Nat.le_refl _) _⟩
      · have hne := nonempty_str h0
        have hR : R = 150 := by
          rw [hR]
          have : s.data.toList ≠ [] := by rw [← Lib.toList_data]; intro h; rw [h] at hne; cases hne
          simp [checkE, this]
        subst hR
        clear HR
        by_cases hn : n = 0
        · subst hn
          go_enter Tryz.func15, Tryz.ntmps15
          go_wp2
          go_ret
          exact ⟨rfl, (Below.refl _ _).alloc (Nat.le_refl _) _⟩
        · have hn1 : (n != 0) = true := by simpa using hn
          go_enter Tryz.func15, Tryz.ntmps15
          go_wp2
          go_ret
          exact ⟨rfl, (Below.refl _ _).alloc (Nat.le_refl _) _⟩
    · have hk2' : (k != 2) = true := by simpa using hk2
      have hk2'' : (k == 2) = false := by simpa using hk2
      by_cases hn : n = 0
      · subst hn
        have hR : R = checkE (kindOk k s.data.toList) := by rw [← HR.out]; simp [Tok.ok, hp']
        have HR2 := Lib.hid hR
        clear HR hR
        by_cases hk1 : k = 1
        · subst hk1
          cases hb : nameL s.data.toList
          all_goals
            have hR : R = checkE (nameL s.data.toList) := by rw [HR2.out]; simp [kindOk]
            rw [hb] at hR
            simp only [checkE, if_true, Bool.false_eq_true, if_false] at hR
            subst hR
            clear HR2 hk2
            go_enter Tryz.func15, Tryz.ntmps15
            go_wp2_with (go_at_call 32; refine (f32_Name s _ hs).mono ?_; rw [hb])
            rintro e w1 ⟨rfl, hb1⟩
            go_wp2
            go_ret
            exact ⟨rfl, below_box hb1⟩
        · have hk1' : (k == 1) = false := by simpa using hk1
          by_cases hk3 : k = 3
          · subst hk3
            have hR : R = checkE (decide (s.size ≤ 128)) := by rw [HR2.out]; simp [kindOk]
            clear HR2 hk2 hk1
            by_cases h128 : s.size ≤ 128
            · simp only [checkE, h128, decide_true, if_true] at hR
              subst hR
              have h128i : (s.size : Int) ≤ 128 := by omega
              clear h128
              go_enter Tryz.func15, Tryz.ntmps15
              go_wp2
              go_ret
              exact ⟨rfl, (Below.refl _ _).alloc (Nat.le_refl _) _⟩
            · simp only [checkE, h128, decide_false, Bool.false_eq_true, if_false] at hR
              subst hR
              have h128i : decide ((s.size : Int) ≤ 128) = false := by simp; omega
              clear h128
              go_enter Tryz.func15, Tryz.ntmps15
              go_wp2
              go_ret
              exact ⟨rfl, (Below.refl _ _).alloc (Nat.le_refl _) _⟩
          · have hk3' : (k == 3) = false := by simpa using hk3
            by_cases hk4 : k = 4
            · subst hk4
              by_cases h1 : s.size = 1
              · have hp1 : 0 < s.size := by omega
                have hb := byte_bounds (s[0]'hp1)
                have hR : R = checkE (markB (s[0]'hp1).toNat) := by rw [HR2.out]; simp [kindOk, one_byte s h1]
                have h1' : ((s.size : Int) == 1) = true := by simp [h1]
                clear HR2 hk2 hk1 hk3 h1
                cases hm : markB (s[0]'hp1).toNat
                all_goals
                  rw [hm] at hR
                  simp only [checkE, if_true, Bool.false_eq_true, if_false] at hR
                  subst hR
                  go_enter Tryz.func15, Tryz.ntmps15
                  go_wp2_with (go_at_call 72; refine (f72_isMark _ _ hb.1 hb.2).mono ?_; rintro e w' ⟨rfl, rfl⟩)
                  go_ret
                  exact ⟨rfl, (Below.refl _ _).alloc (Nat.le_refl _) _⟩
              · have h1' : ((s.size : Int) == 1) = false := by simp; omega
                have hR : R = 150 := by
                  rw [HR2.out]
                  have hl := data_len s
                  generalize s.data.toList = l at *
                  match l with
                  | [] => simp [kindOk, checkE]
                  | [c] => simp at hl; omega
                  | c :: d :: l => simp [kindOk, checkE]
                clear HR2 hk2 hk1 hk3 h1
                subst hR
                go_enter Tryz.func15, Tryz.ntmps15
                go_wp2
                go_ret
                exact ⟨rfl, (Below.refl _ _).alloc (Nat.le_refl _) _⟩
            · have hk4' : (k == 4) = false := by simpa using hk4
              have hR : R = 150 := by rw [HR2.out]; simp [kindOk, checkE, hk1, hk2, hk3, hk4]
              clear HR2 hk2 hk1 hk3 hk4
              subst hR
              go_enter Tryz.func15, Tryz.ntmps15
              go_wp2
              go_ret
              exact ⟨rfl, (Below.refl _ _).alloc (Nat.le_refl _) _⟩
      · have hR : R = 150 := by rw [← HR.out]; simp [Tok.ok, checkE, hn, hk2]
        subst hR
        clear HR
        have hn1 : (n != 0) = true := by simpa using hn
        clear hk2
        go_enter Tryz.func15, Tryz.ntmps15
        go_wp2
        go_ret
        exact ⟨rfl, (Below.refl _ _).alloc (Nat.le_refl _) _⟩
end Go.Proofs.YtijgmloodkbljaaGreatDoor
