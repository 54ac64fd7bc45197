import Derived.Test.YtijgmloodkbljaaGreatDoorBase
import Derived.Test.YtijgmloodkbljaaGreatDoorShf
import Derived.OwnWalk
import Derived.Lib.Hide
namespace Go.Proofs.YtijgmloodkbljaaGreatDoor
open Go Go.RowKit

/-- The call returns v and leaves the world as it is. -/
def Same (v : Value) (w : World) (e : Ending) (w' : World) : Prop := e = .returned v ∧ w = w'
theorem same_bool {a b : Bool} {w : World} (h : a = b) : Same (.bool b) w (.returned (.bool a)) w := by subst h; exact ⟨rfl, rfl⟩
theorem same_int {k : IntKind} {a b : Int} {w : World} (h : a = b) : Same (.int k b) w (.returned (.int k a)) w := by subst h; exact ⟨rfl, rfl⟩

def letB (c : Int) : Bool := decide (97 ≤ c ∧ c ≤ 122 ∨ 65 ≤ c ∧ c ≤ 90 ∨ c = 95)
def digB (c : Int) : Bool := decide (48 ≤ c ∧ c ≤ 57)

theorem f303_isLetter (c : Int) (w : World) : Calls Tryz.prog 303 #[.int .u8 c] w (Same (.bool (letB c)) w) := by
  go_enter Tryz.func303, Tryz.ntmps303
  go_wp2
  all_goals (go_ret; exact same_bool (by rw [Bool.eq_iff_iff]; simp [letB]; omega))
theorem f310_digit (c : Int) (w : World) : Calls Tryz.prog 310 #[.int .u8 c] w (Same (.bool (digB c)) w) := by
  go_enter Tryz.func310, Tryz.ntmps310
  go_wp2
  all_goals (go_ret; exact same_bool (by rw [Bool.eq_iff_iff]; simp [digB]; omega))
theorem f347_isWord (c : Int) (w : World) : Calls Tryz.prog 347 #[.int .u8 c] w (Same (.bool (letB c || digB c)) w) := by
  have hl : letB c = true ∨ letB c = false := by cases letB c <;> simp
  go_enter Tryz.func347, Tryz.ntmps347
  rcases hl with hl | hl
  all_goals
    go_wp2_with (go_at_call 303; refine (f303_isLetter _ _).mono ?_; rintro e w' ⟨rfl, rfl⟩)
  all_goals (go_ret; exact same_bool (by rw [Bool.eq_iff_iff]; simp [digB, hl]; try omega))
theorem f96_letter (c : Int) (w : World) : Calls Tryz.prog 96 #[.int .u8 c] w (Same (.bool (letB c)) w) := by
  go_enter Tryz.func96, Tryz.ntmps96
  go_wp2
  all_goals (go_ret; exact same_bool (by rw [Bool.eq_iff_iff]; simp [letB]; omega))
theorem f197_letter (c : Int) (w : World) : Calls Tryz.prog 197 #[.int .u8 c] w (Same (.bool (letB c)) w) := by
  go_enter Tryz.func197, Tryz.ntmps197
  go_wp2
  all_goals (go_ret; exact same_bool (by rw [Bool.eq_iff_iff]; simp [letB]; omega))
theorem f244_digit (c : Int) (w : World) : Calls Tryz.prog 244 #[.int .u8 c] w (Same (.bool (digB c)) w) := by
  go_enter Tryz.func244, Tryz.ntmps244
  go_wp2
  all_goals (go_ret; exact same_bool (by rw [Bool.eq_iff_iff]; simp [digB]; omega))
theorem f259_digit (c : Int) (w : World) : Calls Tryz.prog 259 #[.int .u8 c] w (Same (.bool (digB c)) w) := by
  go_enter Tryz.func259, Tryz.ntmps259
  go_wp2
  all_goals (go_ret; exact same_bool (by rw [Bool.eq_iff_iff]; simp [digB]; omega))

theorem drop_cons (s : ByteArray) (k : Nat) (h : k < s.size) : s.data.toList.drop k = s[k] :: s.data.toList.drop (k + 1) := by
  rw [List.drop_eq_getElem_cons (by simpa using h)]; rfl
theorem drop_end (s : ByteArray) (k : Nat) (h : s.size ≤ k) : s.data.toList.drop k = [] := List.drop_eq_nil_of_le (by simpa using h)

def wordU (c : UInt8) : Bool := letB c.toNat || digB c.toNat
/-- How many bytes of letters and digits a list begins with. -/
def run (l : List UInt8) : Nat := (l.takeWhile wordU).length
theorem run_cons (c : UInt8) (l : List UInt8) : run (c :: l) = if wordU c = true then run l + 1 else 0 := by
  unfold run; rw [List.takeWhile_cons]; split <;> simp
theorem run_le (l : List UInt8) : run l ≤ l.length := (List.takeWhile_sublist _).length_le

set_option maxHeartbeats 400000 in
theorem f304_words (s : ByteArray) (a : Nat) (w : World) (hs : s.size ≤ 9223372036854775807) (ha : a ≤ s.size) :
    Calls Tryz.prog 304 #[.string s, .int .i64 a] w (Same (.int .i64 (run (s.data.toList.drop a))) w) := by
  have hrl := run_le (s.data.toList.drop a)
  go_enter Tryz.func304, Tryz.ntmps304
  go_wp2
  go_loop [5] (fun n => ∃ k : Nat, k ≤ s.size ∧ a ≤ k ∧ n = .int .i64 k ∧ Hid (run (s.data.toList.drop a) = (k - a) + run (s.data.toList.drop k))) (fun n => s.size - (intOf n).toNat)
  case atStart => exact ⟨a, ha, Nat.le_refl _, rfl, by unfold Hid; omega⟩
  case round =>
    obtain ⟨k, hk, hak, rfl, H⟩ := hrel
    by_cases hlt : k < s.size
    · have hc := Lib.hid (run_cons s[k] (s.data.toList.drop (k + 1)))
      have hd := Lib.hid (drop_cons s k hlt)
      cases hw : (letB s[k].toNat || digB s[k].toNat)
      · go_wp2_with (go_at_call 347; refine (f347_isWord _ _).mono ?_; rintro e w' ⟨rfl, rfl⟩)
        go_ret
        have h1 := H.out
        rw [hd.out, hc.out, if_neg (by unfold wordU; rw [hw]; simp)] at h1
        exact same_int (by omega)
      · go_wp2_with (go_at_call 347; refine (f347_isWord _ _).mono ?_; rintro e w' ⟨rfl, rfl⟩)
        go_round
        case rel =>
          refine ⟨k + 1, by omega, by omega, by go_num, ?_⟩
          have h1 := H.out
          rw [hd.out, hc.out, if_pos (by unfold wordU; rw [hw])] at h1
          unfold Hid; omega
        case measure => simp [intOf]; omega
    · have hd := Lib.hid (drop_end s k (by omega))
      go_wp2
      go_ret
      have h1 := H.out
      rw [hd.out] at h1
      exact same_int (by simp [run] at h1 ⊢; omega)
end Go.Proofs.YtijgmloodkbljaaGreatDoor
