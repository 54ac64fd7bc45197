import Derived.Test.YtijgmloodkbljaaGreatDoorChr
import Derived.Handy
import Derived.Shelf.Strings.SlTrimAscii
namespace Go.Proofs.YtijgmloodkbljaaGreatDoor
open Go Go.RowKit

def markB (c : Int) : Bool := decide (c = 46 ∨ c = 40 ∨ c = 41 ∨ c = 44 ∨ c = 91 ∨ c = 93 ∨ c = 123 ∨ c = 125 ∨ c = 58 ∨ c = 61 ∨ c = 59)

theorem indexByte_mark (c : Int) (h0 : 0 ≤ c) (h1 : c ≤ 255) : decide (0 ≤ Lib.indexByte [46, 40, 41, 44, 91, 93, 123, 125, 58, 61, 59] c.toNat.toUInt8) = markB c := by
  obtain ⟨n, rfl⟩ := Int.eq_ofNat_of_zero_le h0
  have hn : n < 256 := by omega
  clear h0 h1
  simp only [Int.toNat_natCast]
  revert n
  decide +kernel

theorem f72_isMark (c : Int) (w : World) (h0 : 0 ≤ c) (h1 : c ≤ 255) : Calls Tryz.prog 72 #[.int .u8 c] w (Same (.bool (markB c)) w) := by
  have hm := Lib.hid (indexByte_mark c h0 h1)
  go_enter Tryz.func72, Tryz.ntmps72
  go_wp2_with (go_at_call 157; refine (Tryz.strings_IndexByte _ _ _).mono ?_; rintro e w' ⟨rfl, rfl⟩)
  go_ret
  exact same_bool hm.out

theorem mark0 (h : 0 < ({ data := #[46, 40, 41, 44, 91, 93, 123, 125, 58, 61, 59] } : ByteArray).size) : ((({ data := #[46, 40, 41, 44, 91, 93, 123, 125, 58, 61, 59] } : ByteArray)[0]'h).toNat : Int) = 46 := rfl
theorem mark1 (h : 1 < ({ data := #[46, 40, 41, 44, 91, 93, 123, 125, 58, 61, 59] } : ByteArray).size) : ((({ data := #[46, 40, 41, 44, 91, 93, 123, 125, 58, 61, 59] } : ByteArray)[1]'h).toNat : Int) = 40 := rfl
theorem mark2 (h : 2 < ({ data := #[46, 40, 41, 44, 91, 93, 123, 125, 58, 61, 59] } : ByteArray).size) : ((({ data := #[46, 40, 41, 44, 91, 93, 123, 125, 58, 61, 59] } : ByteArray)[2]'h).toNat : Int) = 41 := rfl
theorem mark3 (h : 3 < ({ data := #[46, 40, 41, 44, 91, 93, 123, 125, 58, 61, 59] } : ByteArray).size) : ((({ data := #[46, 40, 41, 44, 91, 93, 123, 125, 58, 61, 59] } : ByteArray)[3]'h).toNat : Int) = 44 := rfl
theorem mark4 (h : 4 < ({ data := #[46, 40, 41, 44, 91, 93, 123, 125, 58, 61, 59] } : ByteArray).size) : ((({ data := #[46, 40, 41, 44, 91, 93, 123, 125, 58, 61, 59] } : ByteArray)[4]'h).toNat : Int) = 91 := rfl
theorem mark5 (h : 5 < ({ data := #[46, 40, 41, 44, 91, 93, 123, 125, 58, 61, 59] } : ByteArray).size) : ((({ data := #[46, 40, 41, 44, 91, 93, 123, 125, 58, 61, 59] } : ByteArray)[5]'h).toNat : Int) = 93 := rfl
theorem mark6 (h : 6 < ({ data := #[46, 40, 41, 44, 91, 93, 123, 125, 58, 61, 59] } : ByteArray).size) : ((({ data := #[46, 40, 41, 44, 91, 93, 123, 125, 58, 61, 59] } : ByteArray)[6]'h).toNat : Int) = 123 := rfl
theorem mark7 (h : 7 < ({ data := #[46, 40, 41, 44, 91, 93, 123, 125, 58, 61, 59] } : ByteArray).size) : ((({ data := #[46, 40, 41, 44, 91, 93, 123, 125, 58, 61, 59] } : ByteArray)[7]'h).toNat : Int) = 125 := rfl
theorem mark8 (h : 8 < ({ data := #[46, 40, 41, 44, 91, 93, 123, 125, 58, 61, 59] } : ByteArray).size) : ((({ data := #[46, 40, 41, 44, 91, 93, 123, 125, 58, 61, 59] } : ByteArray)[8]'h).toNat : Int) = 58 := rfl
theorem mark9 (h : 9 < ({ data := #[46, 40, 41, 44, 91, 93, 123, 125, 58, 61, 59] } : ByteArray).size) : ((({ data := #[46, 40, 41, 44, 91, 93, 123, 125, 58, 61, 59] } : ByteArray)[9]'h).toNat : Int) = 61 := rfl
theorem mark10 (h : 10 < ({ data := #[46, 40, 41, 44, 91, 93, 123, 125, 58, 61, 59] } : ByteArray).size) : ((({ data := #[46, 40, 41, 44, 91, 93, 123, 125, 58, 61, 59] } : ByteArray)[10]'h).toNat : Int) = 59 := rfl
set_option maxHeartbeats 1000000 in
theorem f73_mark (c : Int) (w : World) : Calls Tryz.prog 73 #[.int .u8 c] w (Same (.bool (markB c)) w) := by
  go_enter Tryz.func73, Tryz.ntmps73
  go_wp2
  go_rounds 12
  all_goals (go_ret; exact same_bool (by simp only [mark0, mark1, mark2, mark3, mark4, mark5, mark6, mark7, mark8, mark9, mark10, beq_iff_eq, beq_eq_false_iff_ne, ne_eq] at *; simp [markB]; omega))

def closedL : List UInt8 → Nat → Nat
  | [], _ => 0
  | [c], i => if c = 92 then 0 else if c = 39 then i + 1 else 0
  | c :: d :: l, i => if c = 92 then closedL l (i + 2) else if c = 39 then i + 1 else closedL (d :: l) (i + 1)

theorem closedL_cons (c : UInt8) (l : List UInt8) (i : Nat) : closedL (c :: l) i = if c = 92 then closedL (l.drop 1) (i + 2) else if c = 39 then i + 1 else closedL l (i + 1) := by
  cases l <;> simp [closedL]

set_option maxHeartbeats 400000 in
theorem f305_closed (s : ByteArray) (w : World) (hs : s.size ≤ 1048576) :
    Calls Tryz.prog 305 #[.string s] w (Same (.int .i64 (closedL (s.data.toList.drop 1) 1)) w) := by
  generalize hR : closedL (s.data.toList.drop 1) 1 = R
  have HR := Lib.hid hR
  clear hR
  go_enter Tryz.func305, Tryz.ntmps305
  go_wp2
  go_loop [3] (fun n => ∃ k : Nat, k ≤ s.size + 1 ∧ n = .int .i64 k ∧ Hid (closedL (s.data.toList.drop k) k = R)) (fun n => s.size + 1 - (intOf n).toNat)
  case atStart => exact ⟨1, by omega, rfl, HR.out⟩
  case round =>
    obtain ⟨k, hk, rfl, H⟩ := hrel
    by_cases hlt : k < s.size
    · have hc := Lib.hid (closedL_cons s[k] (s.data.toList.drop (k + 1)) k)
      have hd := Lib.hid (drop_cons s k hlt)
      go_wp2
      · have h1 := H.out
        rw [hd.out, hc.out, if_pos (by have : (s[k].toNat : Int) = 92 := by simpa using (by assumption : ((s[k].toNat : Int) == 92) = true)
                                       exact UInt8.toNat_inj.1 (by simp; omega)), List.drop_drop] at h1
        go_round
        case rel => exact ⟨k + 2, by omega, by go_num, h1⟩
        case measure => simp [intOf]; omega
      · have h1 := H.out
        have e1 : (s[k].toNat : Int) ≠ 92 := by simpa using (by assumption : ((s[k].toNat : Int) == 92) = false)
        have e2 : (s[k].toNat : Int) = 39 := by simpa using (by assumption : ((s[k].toNat : Int) == 39) = true)
        rw [hd.out, hc.out, if_neg (fun h => e1 (by rw [h]; rfl)), if_pos (UInt8.toNat_inj.1 (by simp; omega))] at h1
        go_ret
        exact same_int (by omega)
      · have h1 := H.out
        have e1 : (s[k].toNat : Int) ≠ 92 := by simpa using (by assumption : ((s[k].toNat : Int) == 92) = false)
        have e2 : (s[k].toNat : Int) ≠ 39 := by simpa using (by assumption : ((s[k].toNat : Int) == 39) = false)
        rw [hd.out, hc.out, if_neg (fun h => e1 (by rw [h]; rfl)), if_neg (fun h => e2 (by rw [h]; rfl))] at h1
        go_round
        case rel => exact ⟨k + 1, by omega, by go_num, h1⟩
        case measure => simp [intOf]; omega
    · have hd := Lib.hid (drop_end s k (by omega))
      go_wp2
      go_ret
      have h1 := H.out
      rw [hd.out] at h1
      exact same_int (by rw [← h1]; simp [closedL])
end Go.Proofs.YtijgmloodkbljaaGreatDoor
