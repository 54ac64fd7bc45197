import Derived.Test.YtijgmloodkbljaaGreatDoorLbB
import Derived.Test.YtijgmloodkbljaaGreatDoorLbD
namespace Go.Proofs.YtijgmloodkbljaaGreatDoor
open Go Go.RowKit

set_option maxHeartbeats 2000000 in
theorem f16_Check (k : Int) (s : ByteArray) (n p : Int) (w : World) (hs : s.size ≤ 1048576) :
    Calls Tryz.prog 16 #[.agg #[.int .i64 k, .string s, .int .i64 n, .int .i64 p]] w (Ret (.int .i64 (checkE (Tok.ok ⟨k, s, n, p⟩))) w) := by
  generalize hR : checkE (Tok.ok ⟨k, s, n, p⟩) = R
  have HR := Lib.hid hR
  clear hR
  by_cases hn : n = 0
  · subst hn
    have hR0 : R = checkE (decide (0 ≤ p) && kindOk k s.data.toList) := by rw [← HR.out]; simp [Tok.ok]
    have HR2 := Lib.hid hR0
    clear HR hR0
    by_cases hk1 : k = 1
    · subst hk1
      cases hb : nameL s.data.toList
      · have hR : R = 150 := by rw [HR2.out]; simp [kindOk, checkE, hb]
        subst hR
        try clear hR0
        clear HR2
        go_enter Tryz.func16, Tryz.ntmps16
        go_wp2_with (go_at_call 33; refine (f33_Name s _ hs).mono ?_; rw [hb]; rintro e w' ⟨rfl, rfl⟩)
        go_ret
        exact ⟨rfl, (Below.refl _ _).alloc (Nat.le_refl _) _⟩
      · have hR0 : R = checkE (decide (0 ≤ p)) := by rw [HR2.out]; simp [kindOk, hb]
        clear HR2
        by_cases hp : p < 0
        · have hR : R = 150 := by rw [hR0]; simp [checkE]; omega
          subst hR
          try clear hR0
          go_enter Tryz.func16, Tryz.ntmps16
          go_wp2_with (go_at_call 33; refine (f33_Name s _ hs).mono ?_; rw [hb]; rintro e w' ⟨rfl, rfl⟩)
          go_ret
          exact ⟨rfl, (Below.refl _ _).alloc (Nat.le_refl _) _⟩
        · have hp' : 0 ≤ p := by omega
          have hR : R = 0 := by rw [hR0]; simp [checkE]; omega
          subst hR
          try clear hR0
          clear hp
          go_enter Tryz.func16, Tryz.ntmps16
          go_wp2_with (go_at_call 33; refine (f33_Name s _ hs).mono ?_; rw [hb]; rintro e w' ⟨rfl, rfl⟩)
          go_ret
          exact ⟨rfl, (Below.refl _ _).alloc (Nat.le_refl _) _⟩
    · have hk1' : (k == 1) = false := by simpa using hk1
      by_cases hk2 : k = 2
      · subst hk2
        by_cases h0 : s.size = 0
        · obtain rfl : s = ⟨#[]⟩ := empty_of_size h0
          have hR0 : R = checkE (decide (0 ≤ p)) := by rw [HR2.out]; simp [kindOk]
          clear HR2 hk1
          by_cases hp : p < 0
          · have hR : R = 150 := by rw [hR0]; simp [checkE]; omega
            subst hR
            try clear hR0
            go_enter Tryz.func16, Tryz.ntmps16
            go_wp2
            go_ret
            exact ⟨rfl, (Below.refl _ _).alloc (Nat.le_refl _) _⟩
          · have hp' : 0 ≤ p := by omega
            have hR : R = 0 := by rw [hR0]; simp [checkE]; omega
            subst hR
            try clear hR0
            clear hp
            go_enter Tryz.func16, Tryz.ntmps16
            go_wp2
            go_ret
            exact ⟨rfl, (Below.refl _ _).alloc (Nat.le_refl _) _⟩
        · have hne := nonempty_str h0
          have hR : R = 150 := by
            rw [HR2.out]
            have : s.data.toList ≠ [] := by rw [← Lib.toList_data]; intro h; rw [h] at hne; cases hne
            simp [checkE, kindOk, this]
          subst hR
          try clear hR0
          clear HR2 hk1
          go_enter Tryz.func16, Tryz.ntmps16
          go_wp2
          go_ret
          exact ⟨rfl, (Below.refl _ _).alloc (Nat.le_refl _) _⟩
      · have hk2' : (k == 2) = false := by simpa using hk2
        by_cases hk3 : k = 3
        · subst hk3
          have hR0 : R = checkE (decide (0 ≤ p) && decide (s.size ≤ 128)) := by rw [HR2.out]; simp [kindOk]
          clear HR2 hk2 hk1
          by_cases h128 : s.size ≤ 128
          · have h128i : (s.size : Int) ≤ 128 := by omega
            by_cases hp : p < 0
            · have hR : R = 150 := by rw [hR0]; simp [checkE]; omega
              subst hR
              try clear hR0
              clear h128
              go_enter Tryz.func16, Tryz.ntmps16
              go_wp2
              go_ret
              exact ⟨rfl, (Below.refl _ _).alloc (Nat.le_refl _) _⟩
            · have hp' : 0 ≤ p := by omega
              have hR : R = 0 := by rw [hR0]; simp [checkE, h128, hp']
              subst hR
              try clear hR0
              clear hp h128
              go_enter Tryz.func16, Tryz.ntmps16
              go_wp2
              go_ret
              exact ⟨rfl, (Below.refl _ _).alloc (Nat.le_refl _) _⟩
          · have hR : R = 150 := by rw [hR0]; simp [checkE, h128]
            subst hR
            try clear hR0
            have h128i : decide ((s.size : Int) ≤ 128) = false := by simp; omega
            clear h128
            go_enter Tryz.func16, Tryz.ntmps16
            go_wp2
            go_ret
            exact ⟨rfl, (Below.refl _ _).alloc (Nat.le_refl _) _⟩
        · have hk3' : (k == 3) = false := by simpa using hk3
          by_cases hk4 : k = 4
          · subst hk4
            by_cases h1 : s.size = 1
            · have hp1 : 0 < s.size := by omega
              have hR0 : R = checkE (decide (0 ≤ p) && markB (s[0]'hp1).toNat) := by rw [HR2.out]; simp [kindOk, one_byte s h1]
              have h1' : ((s.size : Int) == 1) = true := by simp [h1]
              clear HR2 hk2 hk1 hk3 h1
              cases hm : markB (s[0]'hp1).toNat
              · have hR : R = 150 := by rw [hR0, hm]; simp [checkE]
                subst hR
                try clear hR0
                go_enter Tryz.func16, Tryz.ntmps16
                go_wp2_with (go_at_call 73; refine (f73_mark _ _).mono ?_; rintro e w' ⟨rfl, rfl⟩)
                go_ret
                exact ⟨rfl, (Below.refl _ _).alloc (Nat.le_refl _) _⟩
              · by_cases hp : p < 0
                · have hR : R = 150 := by rw [hR0]; simp [checkE]; omega
                  subst hR
                  try clear hR0
                  go_enter Tryz.func16, Tryz.ntmps16
                  go_wp2_with (go_at_call 73; refine (f73_mark _ _).mono ?_; rintro e w' ⟨rfl, rfl⟩)
                  go_ret
                  exact ⟨rfl, (Below.refl _ _).alloc (Nat.le_refl _) _⟩
                · have hp' : 0 ≤ p := by omega
                  have hR : R = 0 := by rw [hR0, hm]; simp [checkE, hp']
                  subst hR
                  try clear hR0
                  clear hp
                  go_enter Tryz.func16, Tryz.ntmps16
                  go_wp2_with (go_at_call 73; refine (f73_mark _ _).mono ?_; rintro e w' ⟨rfl, rfl⟩)
                  go_ret
                  exact ⟨rfl, (Below.refl _ _).alloc (Nat.le_refl _) _⟩
            · have h1' : ((s.size : Int) == 1) = false := by simp; omega
              have hR : R = 150 := by
                rw [HR2.out]
                have hl := data_len s
                generalize s.data.toList = l at *
                match l with
                | [] => simp [kindOk, checkE]
                | [c] => simp at hl; omega
                | c :: d :: l => simp [kindOk, checkE]
              clear HR2 hk2 hk1 hk3 h1
              subst hR
              try clear hR0
              go_enter Tryz.func16, Tryz.ntmps16
              go_wp2
              go_ret
              exact ⟨rfl, (Below.refl _ _).alloc (Nat.le_refl _) _⟩
          · have hk4' : (k == 4) = false := by simpa using hk4
            have hR : R = 150 := by rw [HR2.out]; simp [kindOk, checkE, hk1, hk2, hk3, hk4]
            clear HR2 hk2 hk1 hk3 hk4
            subst hR
            try clear hR0
            go_enter Tryz.func16, Tryz.ntmps16
            go_wp2
            go_ret
            exact ⟨rfl, (Below.refl _ _).alloc (Nat.le_refl _) _⟩
  · have hn1 : (n == 0) = false := by simpa using hn
    by_cases hk2 : k = 2
    · subst hk2
      have hR0 : R = checkE (decide (0 ≤ p) && decide (s.data.toList = [])) := by rw [← HR.out]; simp [Tok.ok, kindOk]
      clear HR
      by_cases h0 : s.size = 0
      · obtain rfl : s = ⟨#[]⟩ := empty_of_size h0
        by_cases hp : p < 0
        · have hR : R = 150 := by rw [hR0]; simp [checkE]; omega
          subst hR
          clear hR0 hn
          go_enter Tryz.func16, Tryz.ntmps16
          go_wp2
          go_ret
          exact ⟨rfl, (Below.refl _ _).alloc (Nat.le_refl _) _⟩
        · have hp' : 0 ≤ p := by omega
          have hR : R = 0 := by rw [hR0]; simp [checkE, hp']
          subst hR
          clear hR0 hp hn
          go_enter Tryz.func16, Tryz.ntmps16
          go_wp2
          go_ret
          exact ⟨rfl, (Below.refl _ _).alloc (Nat.le_refl _) _⟩
      · have hne := nonempty_str h0
        have hR : R = 150 := by
          rw [hR0]
          have : s.data.toList ≠ [] := by rw [← Lib.toList_data]; intro h; rw [h] at hne; cases hne
          simp [checkE, this]
        subst hR
        clear hR0 hn
        go_enter Tryz.func16, Tryz.ntmps16
        go_wp2
        go_ret
        exact ⟨rfl, (Below.refl _ _).alloc (Nat.le_refl _) _⟩
    · have hk2' : (k == 2) = false := by simpa using hk2
      have hR : R = 150 := by rw [← HR.out]; simp [Tok.ok, checkE, hn, hk2]
      subst hR
      clear HR hn
      by_cases hk1 : k = 1
      · subst hk1
        clear hk2
        cases hb : nameL s.data.toList
        all_goals
          go_enter Tryz.func16, Tryz.ntmps16
          go_wp2_with (go_at_call 33; refine (f33_Name s _ hs).mono ?_; rw [hb]; rintro e w' ⟨rfl, rfl⟩)
          go_ret
          exact ⟨rfl, (Below.refl _ _).alloc (Nat.le_refl _) _⟩
      · have hk1' : (k == 1) = false := by simpa using hk1
        clear hk1
        by_cases hk3 : k = 3
        · subst hk3
          clear hk2
          by_cases h128 : s.size ≤ 128
          · have h128i : (s.size : Int) ≤ 128 := by omega
            clear h128
            go_enter Tryz.func16, Tryz.ntmps16
            go_wp2
            go_ret
            exact ⟨rfl, (Below.refl _ _).alloc (Nat.le_refl _) _⟩
          · have h128i : decide ((s.size : Int) ≤ 128) = false := by simp; omega
            clear h128
            go_enter Tryz.func16, Tryz.ntmps16
            go_wp2
            go_ret
            exact ⟨rfl, (Below.refl _ _).alloc (Nat.le_refl _) _⟩
        · have hk3' : (k == 3) = false := by simpa using hk3
          clear hk3
          by_cases hk4 : k = 4
          · subst hk4
            clear hk2
            by_cases h1 : s.size = 1
            · have hp1 : 0 < s.size := by omega
              have h1' : ((s.size : Int) == 1) = true := by simp [h1]
              clear h1
              cases hm : markB (s[0]'hp1).toNat
              all_goals
                go_enter Tryz.func16, Tryz.ntmps16
                go_wp2_with (go_at_call 73; refine (f73_mark _ _).mono ?_; rintro e w' ⟨rfl, rfl⟩)
                go_ret
                exact ⟨rfl, (Below.refl _ _).alloc (Nat.le_refl _) _⟩
            · have h1' : ((s.size : Int) == 1) = false := by simp; omega
              clear h1
              go_enter Tryz.func16, Tryz.ntmps16
              go_wp2
              go_ret
              exact ⟨rfl, (Below.refl _ _).alloc (Nat.le_refl _) _⟩
          · have hk4' : (k == 4) = false := by simpa using hk4
            clear hk4 hk2
            go_enter Tryz.func16, Tryz.ntmps16
            go_wp2
            go_ret
            exact ⟨rfl, (Below.refl _ _).alloc (Nat.le_refl _) _⟩
end Go.Proofs.YtijgmloodkbljaaGreatDoor

namespace Go.Proofs.YtijgmloodkbljaaGreatDoor
open Go Go.RowKit

theorem f77_Int (n : Int) (w : World) : Calls Tryz.prog 77 #[.int .i64 n] w (Ret (.agg #[.int .i64 1, .int .i64 n, .string ⟨#[]⟩, .slice none 0 0]) w) := by
  go_enter Tryz.func77, Tryz.ntmps77
  go_wp2
  go_returns
  exact ⟨rfl, by go_grown⟩
theorem f78_Str (s : ByteArray) (w : World) : Calls Tryz.prog 78 #[.string s] w (Ret (.agg #[.int .i64 2, .int .i64 0, .string s, .slice none 0 0]) w) := by
  go_enter Tryz.func78, Tryz.ntmps78
  go_wp2
  go_returns
  exact ⟨rfl, by go_grown⟩
theorem f126_int (n : Int) (hn : I64n n) (w : World) : Calls Tryz.prog 126 #[.agg #[.int .i64 1, .int .i64 n, .string ⟨#[]⟩, .slice none 0 0], .int .i64 0] w (Ret (.string (decS n)) w) := by
  go_enter Tryz.func126, Tryz.ntmps126
  go_wp2_with (go_at_call 110; refine (f110_Text n hn _).mono ?_; rintro e w1 ⟨rfl, h⟩)
  go_wp2
  go_ret
  exact ⟨rfl, below_box h⟩
theorem f126_str (s : ByteArray) (hs : s.size ≤ 1048576) (w : World) : Calls Tryz.prog 126 #[.agg #[.int .i64 2, .int .i64 0, .string s, .slice none 0 0], .int .i64 0] w (Ret (.string (quoteS s)) w) := by
  go_enter Tryz.func126, Tryz.ntmps126
  go_wp2_with (go_at_call 207; refine (f207_Quote s _ hs).mono ?_; rintro e w1 ⟨rfl, h⟩)
  go_wp2
  go_ret
  exact ⟨rfl, below_box h⟩
theorem f54_int (n : Int) (hn : I64n n) (w : World) : Calls Tryz.prog 54 #[.agg #[.int .i64 1, .int .i64 n, .string ⟨#[]⟩, .slice none 0 0]] w (Ret (.string (decS n)) w) := by
  go_enter Tryz.func54, Tryz.ntmps54
  go_wp2_with (go_at_call 126; refine (f126_int n hn _).mono ?_; rintro e w1 ⟨rfl, h⟩)
  go_wp2
  go_ret
  exact ⟨rfl, below_box h⟩
theorem f54_str (s : ByteArray) (hs : s.size ≤ 1048576) (w : World) : Calls Tryz.prog 54 #[.agg #[.int .i64 2, .int .i64 0, .string s, .slice none 0 0]] w (Ret (.string (quoteS s)) w) := by
  go_enter Tryz.func54, Tryz.ntmps54
  go_wp2_with (go_at_call 126; refine (f126_str s hs _).mono ?_; rintro e w1 ⟨rfl, h⟩)
  go_wp2
  go_ret
  exact ⟨rfl, below_box h⟩

set_option maxHeartbeats 1000000 in
theorem f18_Text (k : Int) (s : ByteArray) (n p : Int) (w : World) (hs : s.size ≤ 1048576) (hn : I64n n) :
    Calls Tryz.prog 18 #[.agg #[.int .i64 k, .string s, .int .i64 n, .int .i64 p]] w (Ret (.string (Tok.txt ⟨k, s, n, p⟩)) w) := by
  generalize hR : Tok.txt ⟨k, s, n, p⟩ = R
  have HR := Lib.hid hR
  clear hR
  cases ho : Tok.ok ⟨k, s, n, p⟩
  · have hR : R = ⟨#[]⟩ := by rw [← HR.out]; simp [Tok.txt, ho]
    subst hR
    clear HR
    go_enter Tryz.func18, Tryz.ntmps18
    go_wp2_with (go_at_call 16; refine (f16_Check k s n p _ hs).mono ?_; rw [ho]; rintro e w1 ⟨rfl, h⟩)
    go_wp2
    go_ret
    exact ⟨rfl, below_box h⟩
  · have ho' : Hid (Tok.ok ⟨k, s, n, p⟩ = true) := ho
    clear ho
    by_cases hk' : k = 2
    · have hR : R = decS n := by rw [← HR.out]; unfold Tok.txt; rw [if_pos ho'.out, if_pos hk']
      clear HR
      subst hk' hR
      go_enter Tryz.func18, Tryz.ntmps18
      go_wp2_with (go_at_call 16; refine (f16_Check _ _ n p _ hs).mono ?_; rw [ho'.out, show checkE true = 0 from rfl]; rintro e w1 ⟨rfl, h⟩; obtain ⟨c0, c1, c2, c3⟩ := box4 h; have hb1 := below_box h; clear h)
      refine (f77_Int n w1).mono ?_
      rintro e w2 ⟨rfl, h2⟩
      go_wp2_with fail
      refine (f54_int n hn w2).mono ?_
      rintro e w3 ⟨rfl, h3⟩
      go_wp2
      go_ret
      exact ⟨rfl, (hb1.trans (h2.mono hb1.size)).trans (h3.mono (Nat.le_trans hb1.size h2.size))⟩
    · by_cases hk : k = 3
      · have hR : R = quoteS s := by rw [← HR.out]; unfold Tok.txt; rw [if_pos ho'.out, if_neg hk', if_pos hk]
        clear HR hk'
        subst hk hR
        go_enter Tryz.func18, Tryz.ntmps18
        go_wp2_with (go_at_call 16; refine (f16_Check _ _ n p _ hs).mono ?_; rw [ho'.out, show checkE true = 0 from rfl]; rintro e w1 ⟨rfl, h⟩; obtain ⟨c0, c1, c2, c3⟩ := box4 h; have hb1 := below_box h; clear h)
        refine (f78_Str s w1).mono ?_
        rintro e w2 ⟨rfl, h2⟩
        go_wp2_with fail
        refine (f54_str s hs w2).mono ?_
        rintro e w3 ⟨rfl, h3⟩
        go_wp2
        go_ret
        exact ⟨rfl, (hb1.trans (h2.mono hb1.size)).trans (h3.mono (Nat.le_trans hb1.size h2.size))⟩
      · have hR : R = s := by rw [← HR.out]; simp [Tok.txt, ho'.out, hk', hk]
        have e2 : (k == 2) = false := by simpa using hk'
        have e3 : (k == 3) = false := by simpa using hk
        clear HR hk' hk
        subst hR
        go_enter Tryz.func18, Tryz.ntmps18
        go_wp2_with (go_at_call 16; refine (f16_Check _ _ n p _ hs).mono ?_; rw [ho'.out, show checkE true = 0 from rfl]; rintro e w1 ⟨rfl, h⟩; obtain ⟨c0, c1, c2, c3⟩ := box4 h; have hb1 := below_box h; clear h)
        go_wp2
        go_ret
        exact ⟨rfl, hb1⟩
end Go.Proofs.YtijgmloodkbljaaGreatDoor

namespace Go.Proofs.YtijgmloodkbljaaGreatDoor
open Go Go.RowKit

def Cell4 (w : World) (g o : Nat) (t : Tok) : Prop :=
  w.cell? ⟨g, o, none⟩ = some (.int .i64 t.kind) ∧ w.cell? ⟨g, o + 1, none⟩ = some (.string t.text) ∧ w.cell? ⟨g, o + 2, none⟩ = some (.int .i64 t.n) ∧ w.cell? ⟨g, o + 3, none⟩ = some (.int .i64 t.pos)
def Tok.fine (t : Tok) : Prop := t.text.size ≤ 1048576 ∧ I64n t.n
/-- The slice v holds the tokens ts. -/
structure Toks (w : World) (v : Value) (ts : List Tok) : Prop where
  form : ∃ b c, v = .slice b ts.length c ∧ ∀ (i : Nat) (h : i < ts.length), ∃ g off, b = some ⟨g, off, none⟩ ∧ g < w.heap.size ∧ Cell4 w g (off + i * 4) ts[i]
  fine : ∀ t ∈ ts, t.fine
  len : ts.length ≤ 1048576

theorem Cell4.below {B : Nat} {w w' : World} {g o : Nat} {t : Tok} (h : Cell4 w g o t) (hb : Below B w w') (hg : g < B) : Cell4 w' g o t :=
  ⟨(hb.cell (p := ⟨g, o, none⟩) hg).trans h.1, (hb.cell (p := ⟨g, o + 1, none⟩) hg).trans h.2.1, (hb.cell (p := ⟨g, o + 2, none⟩) hg).trans h.2.2.1, (hb.cell (p := ⟨g, o + 3, none⟩) hg).trans h.2.2.2⟩
theorem Toks.below {w w' : World} {v : Value} {ts : List Tok} (h : Toks w v ts) (hb : Below w.heap.size w w') : Toks w' v ts := by
  refine ⟨?_, h.fine, h.len⟩
  obtain ⟨b, c, h1, h2⟩ := h.form
  refine ⟨b, c, h1, fun i hi => ?_⟩
  obtain ⟨g, off, h3, h4, h5⟩ := h2 i hi
  exact ⟨g, off, h3, Nat.lt_of_lt_of_le h4 hb.size, h5.below hb h4⟩

abbrev St := List UInt8 × Int
def sepL (last k : Int) : List UInt8 := if last ≠ 4 ∧ k ≠ 4 then [32] else []
def stepP (s : St) (t : Tok) : St := if t.ok = true then (s.1 ++ sepL s.2 t.kind ++ t.txt.data.toList, t.kind) else s
def stP (ts : List Tok) (k : Nat) : St := (ts.take k).foldl stepP ([], 4)
def printS (ts : List Tok) : ByteArray := ⟨(ts.foldl stepP ([], 4)).1.toArray⟩
theorem stP_succ (ts : List Tok) (k : Nat) (h : k < ts.length) : stP ts (k + 1) = stepP (stP ts k) ts[k] := by
  unfold stP
  rw [List.take_succ_eq_append_getElem h, List.foldl_append]
  rfl
theorem txt_size (t : Tok) (h : t.fine) : t.txt.data.toList.length ≤ 4200000 := by
  unfold Tok.txt
  by_cases h1 : t.ok = true
  · rw [if_pos h1]
    by_cases h2 : t.kind = 2
    · rw [if_pos h2]
      have h3 := decN_len t.n.natAbs 20 (by have := h.2.1; have := h.2.2; omega) (by omega)
      show (Lib.itoa t.n).toArray.toList.length ≤ _
      unfold Lib.itoa
      have e : ∀ m, m = t.n.natAbs → (Lib.decDigits m).length ≤ 20 := fun m hm => by rw [decDigits_decN, List.length_map, hm]; exact h3
      by_cases h0 : t.n < 0
      · rw [if_pos h0]
        have := e _ rfl
        simp; omega
      · rw [if_neg h0]
        have := e t.n.toNat (by omega)
        simp; omega
    · rw [if_neg h2]
      by_cases h4 : t.kind = 3
      · rw [if_pos h4]
        show (quoteL t.text.data.toList).toArray.toList.length ≤ _
        have h5 := flat_length t.text.data.toList
        have h6 := data_len t.text
        have h7 := h.1
        have : (quoteL t.text.data.toList).length = (t.text.data.toList.flatMap qc).length + 2 := by unfold quoteL; simp
        rw [List.toList_toArray, this]
        omega
      · rw [if_neg h4, data_len]
        have h7 := h.1
        omega
  · rw [if_neg h1]; simp
theorem stP_length (ts : List Tok) (hf : ∀ t ∈ ts, t.fine) (k : Nat) (hk : k ≤ ts.length) (C : Nat) (hC : C = 4200001) : (stP ts k).1.length ≤ k * C := by
  induction k with
  | zero => simp [stP]
  | succ k ih =>
    have h1 := ih (by omega)
    rw [stP_succ ts k (by omega), Nat.succ_mul]
    unfold stepP
    by_cases ho : ts[k].ok = true
    · rw [if_pos ho]
      have h2 := txt_size ts[k] (hf _ (List.getElem_mem _))
      have h3 : (sepL (stP ts k).2 ts[k].kind).length ≤ 1 := by unfold sepL; split <;> simp
      show ((stP ts k).1 ++ sepL (stP ts k).2 ts[k].kind ++ ts[k].txt.data.toList).length ≤ _
      rw [List.length_append, List.length_append]
      generalize ts[k].txt.data.toList.length = a at *
      generalize (sepL (stP ts k).2 ts[k].kind).length = b at *
      generalize (stP ts k).1.length = c at *
      omega
    · rw [if_neg ho]; omega
theorem stP_len (ts : List Tok) (hf : ∀ t ∈ ts, t.fine) (hl : ts.length ≤ 1048576) (k : Nat) (hk : k ≤ ts.length) : (stP ts k).1.length ≤ 4500000000000 := by
  have h := stP_length ts hf k hk 4200001 rfl
  have : k * 4200001 ≤ 1048576 * 4200001 := Nat.mul_le_mul_right _ (by omega)
  omega
theorem QI.box {w0 W : World} {b : Nat} {l : List UInt8} (o : Obj) (hbb : w0.heap.size = b) (h : Bl b b l W) (hb : Below b w0 W) : QI w0 b W.heap.size o l (W.alloc o) := by
  subst hbb
  have hbw : Below W.heap.size W (W.alloc o) := (Below.refl _ _).alloc (Nat.le_refl _) _
  obtain ⟨h2, h3⟩ := below_bl hbw h
  refine ⟨h2, heap_alloc_new W o, ?_, ?_, hb.trans (hbw.mono hb.size), Nat.le_refl _⟩
  · have := h.lt; omega
  · rw [h3]
    intro e
    have := rowOf_lt h _ e
    omega
theorem QI.box4 {w0 W : World} {b c : Nat} {l : List UInt8} {v0 v1 v2 v3 : Value} {t : TypeId} {fr : Nat × Nat} (h : QI w0 b c (.cells #[v0, v1, v2, v3] t fr) l W) :
    W.cell? ⟨c, 0, none⟩ = some v0 ∧ W.cell? ⟨c, 1, none⟩ = some v1 ∧ W.cell? ⟨c, 2, none⟩ = some v2 ∧ W.cell? ⟨c, 3, none⟩ = some v3 := by
  exact ⟨Lib.cell_of_heap h.row 0, Lib.cell_of_heap h.row 1, Lib.cell_of_heap h.row 2, Lib.cell_of_heap h.row 3⟩

set_option maxHeartbeats 4000000 in
set_option maxRecDepth 100000 in
theorem f20_Print (v : Value) (ts : List Tok) (w : World) (hT : Toks w v ts) (hL : Laid w) : Calls Tryz.prog 20 #[v] w (Ret (.string (printS ts)) w) := by
  generalize hR : printS ts = R
  have HR := Lib.hid hR
  clear hR
  have hfine := Lib.hid hT.fine
  have htl := hT.len
  have HT := Lib.hid hT
  have HL := Lib.hid hL
  obtain ⟨bb, cc, rfl, hcell⟩ := hT.form
  have hB0 := Bl.fresh w
  have hb0 : Below w.heap.size w (w.alloc (.cells #[.pointer none, .slice none 0 0] 101)) := (Below.refl _ _).alloc (Nat.le_refl _) _
  have HC := Lib.hid hcell
  clear hcell hT hL
  go_enter Tryz.func20, Tryz.ntmps20
  go_wp2
  generalize hb : w.heap.size = b at hB0 hb0
  have HB := Lib.hid hb
  go_loopw [4, 9] (fun u i wr => ∃ k : Nat, k ≤ ts.length ∧ i = .int .i64 k ∧ u = .int .i64 (stP ts k).2 ∧ Bl b b (stP ts k).1 wr ∧ Below b w wr) (fun u i _ => ts.length - (intOf i).toNat)
  case atStart => exact ⟨0, by omega, rfl, rfl, hB0, hb0⟩
  case round =>
    clear hB0 hb0
    obtain ⟨k, hk, rfl, rfl, hBl, hbel⟩ := hrel
    by_cases hlt : k < ts.length
    · obtain ⟨g, off, rfl, hg, hc4⟩ := HC.out k hlt
      obtain ⟨c0, c1, c2, c3⟩ := hc4.below hbel (by omega)
      have hf := hfine.out _ (List.getElem_mem hlt)
      have hll := stP_len ts hfine.out htl k hk
      have hsn := Lib.hid (stP_succ ts k hlt)
      have hts := txt_size _ hf
      generalize ts[k] = t at *
      generalize stP ts k = st at *
      obtain ⟨l, last⟩ := st
      obtain ⟨tk, tt, tn, tp⟩ := t
      have hll' : l.length ≤ 4500000000000 := hll
      clear hll
      have hQ := QI.box (.cells #[.int .i64 tk, .string tt, .int .i64 tn, .int .i64 tp] 24) HB.out hBl hbel
      cases ho : Tok.ok ⟨tk, tt, tn, tp⟩
      · have hst : Hid (stepP (l, last) ⟨tk, tt, tn, tp⟩ = (l, last)) := by unfold Hid stepP; rw [if_neg (by rw [ho]; decide)]
        go_wp2_with (go_at_call 15; refine (f15_Check _ _ _ _ _ hf.1).mono ?_; rw [ho, show checkE false = 150 from rfl]; rintro e w1 ⟨rfl, h1⟩; have hQ1 := hQ.ret h1; clear h1 hQ; obtain ⟨d0, d1, d2, d3⟩ := hQ1.box4)
        go_roundw
        case rel =>
          refine ⟨k + 1, by omega, by go_num, by rw [hsn.out, hst.out], by rw [hsn.out, hst.out]; exact hQ1.bl, by rw [← HB.out]; exact hQ1.below⟩
        case measure => simp [intOf]; omega
      · by_cases hl4 : last = 4
        · have hst : Hid (stepP (l, last) ⟨tk, tt, tn, tp⟩ = (l ++ (Tok.txt ⟨tk, tt, tn, tp⟩).data.toList, tk)) := by
            unfold Hid stepP; rw [if_pos ho]; simp [sepL, hl4]
          have e1 : (last != 4) = false := by simp [hl4]
          clear hl4
          go_wp2_with (go_at_call 15; refine (f15_Check _ _ _ _ _ hf.1).mono ?_; rw [ho, show checkE true = 0 from rfl]; rintro e w1 ⟨rfl, h1⟩; have hQ1 := hQ.ret h1; clear h1 hQ; obtain ⟨d0, d1, d2, d3⟩ := hQ1.box4)
          refine (f17_Text _ _ _ _ _ hf.1 hf.2 (HL.out.below hQ1.below HL.out.size)).mono ?_
          rintro e w3 ⟨rfl, h3⟩
          have hQ3 := hQ1.ret h3
          clear h3 hQ1 d0 d1 d2 d3
          go_wp2_with fail
          refine (f80_q _ hQ3 (by have := hts; simp at this ⊢; omega)).mono ?_
          rintro e w4 ⟨rfl, hQ4⟩
          clear hQ3
          obtain ⟨d0, d1, d2, d3⟩ := hQ4.box4
          go_wp2_with fail
          go_roundw
          case rel =>
            refine ⟨k + 1, by omega, by go_num, by rw [hsn.out, hst.out], by rw [hsn.out, hst.out]; exact hQ4.bl, by rw [← HB.out]; exact hQ4.below⟩
          case measure => simp [intOf]; omega
        · have e1 : (last != 4) = true := by simp [hl4]
          by_cases hk4 : tk = 4
          · have hst : Hid (stepP (l, last) ⟨tk, tt, tn, tp⟩ = (l ++ (Tok.txt ⟨tk, tt, tn, tp⟩).data.toList, tk)) := by
              unfold Hid stepP; rw [if_pos ho]; simp [sepL, hk4]
            have e2 : (tk != 4) = false := by simp [hk4]
            clear hl4 hk4
            go_wp2_with (go_at_call 15; refine (f15_Check _ _ _ _ _ hf.1).mono ?_; rw [ho, show checkE true = 0 from rfl]; rintro e w1 ⟨rfl, h1⟩; have hQ1 := hQ.ret h1; clear h1 hQ; obtain ⟨d0, d1, d2, d3⟩ := hQ1.box4)
            refine (f17_Text _ _ _ _ _ hf.1 hf.2 (HL.out.below hQ1.below HL.out.size)).mono ?_
            rintro e w3 ⟨rfl, h3⟩
            have hQ3 := hQ1.ret h3
            clear h3 hQ1 d0 d1 d2 d3
            go_wp2_with fail
            refine (f80_q _ hQ3 (by have := hts; simp at this ⊢; omega)).mono ?_
            rintro e w4 ⟨rfl, hQ4⟩
            clear hQ3
            obtain ⟨d0, d1, d2, d3⟩ := hQ4.box4
            go_wp2_with fail
            go_roundw
            case rel =>
              refine ⟨k + 1, by omega, by go_num, by rw [hsn.out, hst.out], by rw [hsn.out, hst.out]; exact hQ4.bl, by rw [← HB.out]; exact hQ4.below⟩
            case measure => simp [intOf]; omega
          · have hst : Hid (stepP (l, last) ⟨tk, tt, tn, tp⟩ = (l ++ [32] ++ (Tok.txt ⟨tk, tt, tn, tp⟩).data.toList, tk)) := by
              unfold Hid stepP; rw [if_pos ho]; simp [sepL, hk4, hl4]
            have e2 : (tk != 4) = true := by simp [hk4]
            clear hl4 hk4
            go_wp2_with (go_at_call 15; refine (f15_Check _ _ _ _ _ hf.1).mono ?_; rw [ho, show checkE true = 0 from rfl]; rintro e w1 ⟨rfl, h1⟩; have hQ1 := hQ.ret h1; clear h1 hQ; obtain ⟨d0, d1, d2, d3⟩ := hQ1.box4)
            refine (f79_q 32 32 rfl hQ1 (by omega)).mono ?_
            rintro e w2 ⟨rfl, hQ2⟩
            clear hQ1 d0 d1 d2 d3
            obtain ⟨d0, d1, d2, d3⟩ := hQ2.box4
            go_wp2_with fail
            refine (f17_Text _ _ _ _ _ hf.1 hf.2 (HL.out.below hQ2.below HL.out.size)).mono ?_
            rintro e w3 ⟨rfl, h3⟩
            have hQ3 := hQ2.ret h3
            clear h3 hQ2 d0 d1 d2 d3
            go_wp2_with fail
            refine (f80_q _ hQ3 (by have := hts; simp at this ⊢; omega)).mono ?_
            rintro e w4 ⟨rfl, hQ4⟩
            clear hQ3
            obtain ⟨d0, d1, d2, d3⟩ := hQ4.box4
            go_wp2_with fail
            go_roundw
            case rel =>
              refine ⟨k + 1, by omega, by go_num, by rw [hsn.out, hst.out], by rw [hsn.out, hst.out]; exact hQ4.bl, by rw [← HB.out]; exact hQ4.below⟩
            case measure => simp [intOf]; omega
    · obtain rfl : k = ts.length := by omega
      have hend : stP ts ts.length = ts.foldl stepP ([], 4) := by unfold stP; rw [List.take_length]
      rw [hend] at hBl
      have hfin : Done (.string ⟨(ts.foldl stepP ([], 4)).1.toArray⟩) w = Done (.string R) w := by rw [← HR.out]; rfl
      go_wp2_with fail
      refine (Tryz.Builder_String_any b b _ wr hBl (Nat.le_of_lt hBl.lt)).mono ?_
      rintro e w1 ⟨rfl, h1⟩
      have hb2 : Below w.heap.size w w1 := by rw [HB.out]; exact hbel.trans h1
      have hRR : (⟨(ts.foldl stepP ([], 4)).1.toArray⟩ : ByteArray) = R := HR.out
      rw [hRR]
      clear hRR hfin HR
      go_wp2
      go_ret
      exact ⟨rfl, hb2⟩
end Go.Proofs.YtijgmloodkbljaaGreatDoor

namespace Go.Proofs.YtijgmloodkbljaaGreatDoor
open Go Go.RowKit

theorem str_app (l : List UInt8) (s : ByteArray) : (⟨l.toArray⟩ : ByteArray) ++ s = ⟨(l ++ s.data.toList).toArray⟩ := by
  have : ((⟨l.toArray⟩ : ByteArray) ++ s).data = (l ++ s.data.toList).toArray := by
    rw [ByteArray.data_append]; simp
  exact congrArg ByteArray.mk this
theorem size_arr (l : List UInt8) : (⟨l.toArray⟩ : ByteArray).size = l.length := by
  show l.toArray.size = _
  simp
set_option maxHeartbeats 4000000 in
set_option maxRecDepth 100000 in
theorem f21_Print (v : Value) (ts : List Tok) (w : World) (hT : Toks w v ts) : Calls Tryz.prog 21 #[v] w (Ret (.string (printS ts)) w) := by
  generalize hR : printS ts = R
  have HR := Lib.hid hR
  clear hR
  have hfine := Lib.hid hT.fine
  have htl := hT.len
  obtain ⟨bb, cc, rfl, hcell⟩ := hT.form
  have HC := Lib.hid hcell
  clear hcell hT
  go_enter Tryz.func21, Tryz.ntmps21
  go_wp2
  go_loopw [3, 4, 5] (fun s u i wr => ∃ k : Nat, k ≤ ts.length ∧ i = .int .i64 k ∧ u = .int .i64 (stP ts k).2 ∧ s = .string ⟨(stP ts k).1.toArray⟩ ∧ Below w.heap.size w wr) (fun s u i _ => ts.length - (intOf i).toNat)
  case atStart => exact ⟨0, by omega, rfl, rfl, rfl, Below.refl _ _⟩
  case round =>
    obtain ⟨k, hk, rfl, rfl, rfl, hbel⟩ := hrel
    by_cases hlt : k < ts.length
    · obtain ⟨g, off, rfl, hg, hc4⟩ := HC.out k hlt
      have hc4r := hc4.below hbel hg
      obtain ⟨c0, c1, c2, c3⟩ := hc4r
      have hf := hfine.out _ (List.getElem_mem hlt)
      have hll := stP_len ts hfine.out htl k hk
      have hsn := Lib.hid (stP_succ ts k hlt)
      have hts := txt_size _ hf
      generalize ts[k] = t at *
      generalize stP ts k = st at *
      obtain ⟨l, last⟩ := st
      obtain ⟨tk, tt, tn, tp⟩ := t
      have hll' : l.length ≤ 4500000000000 := hll
      clear hll
      cases ho : Tok.ok ⟨tk, tt, tn, tp⟩
      · have hst : Hid (stepP (l, last) ⟨tk, tt, tn, tp⟩ = (l, last)) := by unfold Hid stepP; rw [if_neg (by rw [ho]; decide)]
        go_wp2_with (go_at_call 16; refine (f16_Check _ _ _ _ _ hf.1).mono ?_; rw [ho, show checkE false = 150 from rfl]; rintro e w1 ⟨rfl, h1⟩; have hb1 := hbel.trans (h1.mono hbel.size); obtain ⟨d0, d1, d2, d3⟩ := hc4.below hb1 hg; clear h1 hbel c0 c1 c2 c3)
        go_roundw
        case rel =>
          exact ⟨k + 1, by omega, by go_num, by rw [hsn.out, hst.out], by rw [hsn.out, hst.out], hb1⟩
        case measure => simp [intOf]; omega
      · have htz : (Tok.txt ⟨tk, tt, tn, tp⟩).size ≤ 4200000 := by rw [← data_len]; exact hts
        by_cases hl4 : last = 4
        · have hst : Hid (stepP (l, last) ⟨tk, tt, tn, tp⟩ = (l ++ (Tok.txt ⟨tk, tt, tn, tp⟩).data.toList, tk)) := by
            unfold Hid stepP; rw [if_pos ho]; simp [sepL, hl4]
          have hap : Hid ((⟨l.toArray⟩ : ByteArray) ++ Tok.txt ⟨tk, tt, tn, tp⟩ = ⟨(l ++ (Tok.txt ⟨tk, tt, tn, tp⟩).data.toList).toArray⟩) := str_app _ _
          have hz : (⟨l.toArray⟩ : ByteArray).size ≤ 4500000000000 := by rw [size_arr]; exact hll'
          have e1 : (last != 4) = false := by simp [hl4]
          clear hl4
          go_wp2_with (go_at_call 16; refine (f16_Check _ _ _ _ _ hf.1).mono ?_; rw [ho, show checkE true = 0 from rfl]; rintro e w1 ⟨rfl, h1⟩; have hb1 := hbel.trans (h1.mono hbel.size); obtain ⟨d0, d1, d2, d3⟩ := hc4.below hb1 hg; clear h1 hbel c0 c1 c2 c3)
          refine (f18_Text _ _ _ _ _ hf.1 hf.2).mono ?_
          rintro e w3 ⟨rfl, h3⟩
          have hb3 := hb1.trans (h3.mono hb1.size)
          clear h3 hb1 d0 d1 d2 d3
          obtain ⟨d0, d1, d2, d3⟩ := hc4.below hb3 hg
          go_wp2
          go_roundw
          case rel =>
            exact ⟨k + 1, by omega, by go_num, by rw [hsn.out, hst.out], by rw [hsn.out, hst.out]; exact congrArg Value.string hap.out, hb3⟩
          case measure => simp [intOf]; omega
        · have e1 : (last != 4) = true := by simp [hl4]
          by_cases hk4 : tk = 4
          · have hst : Hid (stepP (l, last) ⟨tk, tt, tn, tp⟩ = (l ++ (Tok.txt ⟨tk, tt, tn, tp⟩).data.toList, tk)) := by
              unfold Hid stepP; rw [if_pos ho]; simp [sepL, hk4]
            have hap : Hid ((⟨l.toArray⟩ : ByteArray) ++ Tok.txt ⟨tk, tt, tn, tp⟩ = ⟨(l ++ (Tok.txt ⟨tk, tt, tn, tp⟩).data.toList).toArray⟩) := str_app _ _
            have hz : (⟨l.toArray⟩ : ByteArray).size ≤ 4500000000000 := by rw [size_arr]; exact hll'
            have e2 : (tk != 4) = false := by simp [hk4]
            clear hl4 hk4
            go_wp2_with (go_at_call 16; refine (f16_Check _ _ _ _ _ hf.1).mono ?_; rw [ho, show checkE true = 0 from rfl]; rintro e w1 ⟨rfl, h1⟩; have hb1 := hbel.trans (h1.mono hbel.size); obtain ⟨d0, d1, d2, d3⟩ := hc4.below hb1 hg; clear h1 hbel c0 c1 c2 c3)
            refine (f18_Text _ _ _ _ _ hf.1 hf.2).mono ?_
            rintro e w3 ⟨rfl, h3⟩
            have hb3 := hb1.trans (h3.mono hb1.size)
            clear h3 hb1 d0 d1 d2 d3
            obtain ⟨d0, d1, d2, d3⟩ := hc4.below hb3 hg
            go_wp2
            go_roundw
            case rel =>
              exact ⟨k + 1, by omega, by go_num, by rw [hsn.out, hst.out], by rw [hsn.out, hst.out]; exact congrArg Value.string hap.out, hb3⟩
            case measure => simp [intOf]; omega
          · have hst : Hid (stepP (l, last) ⟨tk, tt, tn, tp⟩ = (l ++ [32] ++ (Tok.txt ⟨tk, tt, tn, tp⟩).data.toList, tk)) := by
              unfold Hid stepP; rw [if_pos ho]; simp [sepL, hk4, hl4]
            have hap : Hid (((⟨l.toArray⟩ : ByteArray) ++ ⟨#[32]⟩) ++ Tok.txt ⟨tk, tt, tn, tp⟩ = ⟨(l ++ [32] ++ (Tok.txt ⟨tk, tt, tn, tp⟩).data.toList).toArray⟩) := by unfold Hid; rw [str_snoc, str_app]
            have hz : (⟨l.toArray⟩ : ByteArray).size ≤ 4500000000000 := by rw [size_arr]; exact hll'
            have e2 : (tk != 4) = true := by simp [hk4]
            clear hl4 hk4
            go_wp2_with (go_at_call 16; refine (f16_Check _ _ _ _ _ hf.1).mono ?_; rw [ho, show checkE true = 0 from rfl]; rintro e w1 ⟨rfl, h1⟩; have hb1 := hbel.trans (h1.mono hbel.size); obtain ⟨d0, d1, d2, d3⟩ := hc4.below hb1 hg; clear h1 hbel c0 c1 c2 c3)
            refine (f18_Text _ _ _ _ _ hf.1 hf.2).mono ?_
            rintro e w3 ⟨rfl, h3⟩
            have hb3 := hb1.trans (h3.mono hb1.size)
            clear h3 hb1 d0 d1 d2 d3
            obtain ⟨d0, d1, d2, d3⟩ := hc4.below hb3 hg
            go_wp2
            go_roundw
            case rel =>
              exact ⟨k + 1, by omega, by go_num, by rw [hsn.out, hst.out], by rw [hsn.out, hst.out]; exact congrArg Value.string hap.out, hb3⟩
            case measure => simp [intOf]; omega
    · obtain rfl : k = ts.length := by omega
      have hend : (⟨(stP ts ts.length).1.toArray⟩ : ByteArray) = R := by rw [← HR.out]; unfold stP; rw [List.take_length]; rfl
      rw [hend]
      clear hend HR
      go_wp2
      go_ret
      exact ⟨rfl, hbel⟩
end Go.Proofs.YtijgmloodkbljaaGreatDoor
