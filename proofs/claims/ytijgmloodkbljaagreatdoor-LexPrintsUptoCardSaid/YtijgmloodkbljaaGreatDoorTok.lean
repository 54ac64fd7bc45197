import Derived.Test.YtijgmloodkbljaaGreatDoorNam
namespace Go.Proofs.YtijgmloodkbljaaGreatDoor
open Go Go.RowKit

structure Tok where
  kind : Int
  text : ByteArray
  n : Int
  pos : Int

abbrev Tok.val (t : Tok) : Value := .agg #[.int .i64 t.kind, .string t.text, .int .i64 t.n, .int .i64 t.pos]

def kindOk (k : Int) (s : List UInt8) : Bool :=
  if k = 1 then nameL s else if k = 2 then decide (s = []) else if k = 3 then decide (s.length ≤ 128) else if k = 4 then (match s with | [c] => markB c.toNat | _ => false) else false
def Tok.ok (t : Tok) : Bool := decide (0 ≤ t.pos ∧ (t.n = 0 ∨ t.kind = 2)) && kindOk t.kind t.text.data.toList
def checkE (b : Bool) : Int := if b = true then 0 else 150

theorem ret_int {k : IntKind} {a b : Int} {w w' : World} (h : a = b) (hb : Below w.heap.size w w') : Ret (.int k b) w (.returned (.int k a)) w' := by subst h; exact ⟨rfl, hb⟩

theorem below_box {w w1 : World} {o : Obj} (h : Below (w.alloc o).heap.size (w.alloc o) w1) : Below w.heap.size w w1 :=
  ((Below.refl _ _).alloc (Nat.le_refl _) _).trans (h.mono (by simp))
theorem one_byte (s : ByteArray) (h : s.size = 1) : s.data.toList = [s[0]'(by omega)] := by
  have hd := drop_cons s 0 (by omega)
  rw [List.drop_zero, drop_end s 1 (by omega)] at hd
  exact hd

theorem byte_bounds (c : UInt8) : 0 ≤ (c.toNat : Int) ∧ (c.toNat : Int) ≤ 255 := by
  have := c.toNat_lt
  omega

set_option maxHeartbeats 1000000 in
theorem f15_Check (k : Int) (s : ByteArray) (n p : Int) (w : World) (hs : s.size ≤ 1048576) :
    Calls Tryz.prog 15 #[.agg #[.int .i64 k, .string s, .int .i64 n, .int .i64 p]] w (Ret (.int .i64 (checkE (Tok.ok ⟨k, s, n, p⟩))) w) := by
  generalize hR : checkE (Tok.ok ⟨k, s, n, p⟩) = R
  have HR := Lib.hid hR
  clear hR
  by_cases hp : p < 0
  · have hR : R = 150 := by rw [← HR.out]; simp [Tok.ok, checkE]; omega
    subst hR
    clear HR
    go_enter Tryz.func15, Tryz.ntmps15
    go_wp2
    go_ret
    exact ⟨rfl, (Below.refl _ _).alloc (Nat.le_refl _) _⟩
  · have hp' : 0 ≤ p := by omega
    clear hp
    by_cases hk2 : k = 2
    · subst hk2
      have hR : R = checkE (decide (s.data.toList = [])) := by rw [← HR.out]; simp [Tok.ok, kindOk, hp']
      by_cases h0 : s.size = 0
      · obtain rfl : s = ⟨#[]⟩ := empty_of_size h0
        have hR : R = 0 := by rw [hR]; rfl
        subst hR
        clear HR
        by_cases hn : n = 0
        · subst hn
          go_enter Tryz.func15, Tryz.ntmps15
          go_wp2
          go_ret
          exact ⟨rfl, (Below.refl _ _).alloc (Nat.le_refl _) _⟩
        · have hn1 : (n != 0) = true := by simpa using hn
          go_enter Tryz.func15, Tryz.ntmps15
          go_wp2
          go_ret
          exact ⟨rfl, (Below.refl _ _).alloc (Nat.le_refl _) _⟩
      · have hne := nonempty_str h0
        have hR : R = 150 := by
          rw [hR]
          have : s.data.toList ≠ [] := by rw [← Lib.toList_data]; intro h; rw [h] at hne; cases hne
          simp [checkE, this]
        subst hR
        clear HR
        by_cases hn : n = 0
        · subst hn
          go_enter Tryz.func15, Tryz.ntmps15
          go_wp2
          go_ret
          exact ⟨rfl, (Below.refl _ _).alloc (Nat.le_refl _) _⟩
        · have hn1 : (n != 0) = true := by simpa using hn
          go_enter Tryz.func15, Tryz.ntmps15
          go_wp2
          go_ret
          exact ⟨rfl, (Below.refl _ _).alloc (Nat.le_refl _) _⟩
    · have hk2' : (k != 2) = true := by simpa using hk2
      have hk2'' : (k == 2) = false := by simpa using hk2
      by_cases hn : n = 0
      · subst hn
        have hR : R = checkE (kindOk k s.data.toList) := by rw [← HR.out]; simp [Tok.ok, hp']
        have HR2 := Lib.hid hR
        clear HR hR
        by_cases hk1 : k = 1
        · subst hk1
          cases hb : nameL s.data.toList
          all_goals
            have hR : R = checkE (nameL s.data.toList) := by rw [HR2.out]; simp [kindOk]
            rw [hb] at hR
            simp only [checkE, if_true, Bool.false_eq_true, if_false] at hR
            subst hR
            clear HR2 hk2
            go_enter Tryz.func15, Tryz.ntmps15
            go_wp2_with (go_at_call 32; refine (f32_Name s _ hs).mono ?_; rw [hb])
            rintro e w1 ⟨rfl, hb1⟩
            go_wp2
            go_ret
            exact ⟨rfl, below_box hb1⟩
        · have hk1' : (k == 1) = false := by simpa using hk1
          by_cases hk3 : k = 3
          · subst hk3
            have hR : R = checkE (decide (s.size ≤ 128)) := by rw [HR2.out]; simp [kindOk]
            clear HR2 hk2 hk1
            by_cases h128 : s.size ≤ 128
            · simp only [checkE, h128, decide_true, if_true] at hR
              subst hR
              have h128i : (s.size : Int) ≤ 128 := by omega
              clear h128
              go_enter Tryz.func15, Tryz.ntmps15
              go_wp2
              go_ret
              exact ⟨rfl, (Below.refl _ _).alloc (Nat.le_refl _) _⟩
            · simp only [checkE, h128, decide_false, Bool.false_eq_true, if_false] at hR
              subst hR
              have h128i : decide ((s.size : Int) ≤ 128) = false := by simp; omega
              clear h128
              go_enter Tryz.func15, Tryz.ntmps15
              go_wp2
              go_ret
              exact ⟨rfl, (Below.refl _ _).alloc (Nat.le_refl _) _⟩
          · have hk3' : (k == 3) = false := by simpa using hk3
            by_cases hk4 : k = 4
            · subst hk4
              by_cases h1 : s.size = 1
              · have hp1 : 0 < s.size := by omega
                have hb := byte_bounds (s[0]'hp1)
                have hR : R = checkE (markB (s[0]'hp1).toNat) := by rw [HR2.out]; simp [kindOk, one_byte s h1]
                have h1' : ((s.size : Int) == 1) = true := by simp [h1]
                clear HR2 hk2 hk1 hk3 h1
                cases hm : markB (s[0]'hp1).toNat
                all_goals
                  rw [hm] at hR
                  simp only [checkE, if_true, Bool.false_eq_true, if_false] at hR
                  subst hR
                  go_enter Tryz.func15, Tryz.ntmps15
                  go_wp2_with (go_at_call 72; refine (f72_isMark _ _ hb.1 hb.2).mono ?_; rintro e w' ⟨rfl, rfl⟩)
                  go_ret
                  exact ⟨rfl, (Below.refl _ _).alloc (Nat.le_refl _) _⟩
              · have h1' : ((s.size : Int) == 1) = false := by simp; omega
                have hR : R = 150 := by
                  rw [HR2.out]
                  have hl := data_len s
                  generalize s.data.toList = l at *
                  match l with
                  | [] => simp [kindOk, checkE]
                  | [c] => simp at hl; omega
                  | c :: d :: l => simp [kindOk, checkE]
                clear HR2 hk2 hk1 hk3 h1
                subst hR
                go_enter Tryz.func15, Tryz.ntmps15
                go_wp2
                go_ret
                exact ⟨rfl, (Below.refl _ _).alloc (Nat.le_refl _) _⟩
            · have hk4' : (k == 4) = false := by simpa using hk4
              have hR : R = 150 := by rw [HR2.out]; simp [kindOk, checkE, hk1, hk2, hk3, hk4]
              clear HR2 hk2 hk1 hk3 hk4
              subst hR
              go_enter Tryz.func15, Tryz.ntmps15
              go_wp2
              go_ret
              exact ⟨rfl, (Below.refl _ _).alloc (Nat.le_refl _) _⟩
      · have hR : R = 150 := by rw [← HR.out]; simp [Tok.ok, checkE, hn, hk2]
        subst hR
        clear HR
        have hn1 : (n != 0) = true := by simpa using hn
        clear hk2
        go_enter Tryz.func15, Tryz.ntmps15
        go_wp2
        go_ret
        exact ⟨rfl, (Below.refl _ _).alloc (Nat.le_refl _) _⟩
end Go.Proofs.YtijgmloodkbljaaGreatDoor
