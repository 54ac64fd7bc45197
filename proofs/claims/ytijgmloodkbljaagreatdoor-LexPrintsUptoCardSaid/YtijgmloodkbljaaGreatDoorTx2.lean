import Derived.Test.YtijgmloodkbljaaGreatDoorDig
import Derived.Test.YtijgmloodkbljaaGreatDoorTo2
namespace Go.Proofs.YtijgmloodkbljaaGreatDoor
open Go Go.RowKit

theorem f77_Int (n : Int) (w : World) : Calls Tryz.prog 77 #[.int .i64 n] w (Ret (.agg #[.int .i64 1, .int .i64 n, .string ⟨#[]⟩, .slice none 0 0]) w) := by
  go_enter Tryz.func77, Tryz.ntmps77
  go_wp2
  go_returns
  exact ⟨rfl, by go_grown⟩
theorem f78_Str (s : ByteArray) (w : World) : Calls Tryz.prog 78 #[.string s] w (Ret (.agg #[.int .i64 2, .int .i64 0, .string s, .slice none 0 0]) w) := by
  go_enter Tryz.func78, Tryz.ntmps78
  go_wp2
  go_returns
  exact ⟨rfl, by go_grown⟩
theorem f126_int (n : Int) (hn : I64n n) (w : World) : Calls Tryz.prog 126 #[.agg #[.int .i64 1, .int .i64 n, .string ⟨#[]⟩, .slice none 0 0], .int .i64 0] w (Ret (.string (decS n)) w) := by
  go_enter Tryz.func126, Tryz.ntmps126
  go_wp2_with (go_at_call 110; refine (f110_Text n hn _).mono ?_; rintro e w1 ⟨rfl, h⟩)
  go_wp2
  go_ret
  exact ⟨rfl, below_box h⟩
theorem f126_str (s : ByteArray) (hs : s.size ≤ 1048576) (w : World) : Calls Tryz.prog 126 #[.agg #[.int .i64 2, .int .i64 0, .string s, .slice none 0 0], .int .i64 0] w (Ret (.string (quoteS s)) w) := by
  go_enter Tryz.func126, Tryz.ntmps126
  go_wp2_with (go_at_call 207; refine (f207_Quote s _ hs).mono ?_; rintro e w1 ⟨rfl, h⟩)
  go_wp2
  go_ret
  exact ⟨rfl, below_box h⟩
theorem f54_int (n : Int) (hn : I64n n) (w : World) : Calls Tryz.prog 54 #[.agg #[.int .i64 1, .int .i64 n, .string ⟨#[]⟩, .slice none 0 0]] w (Ret (.string (decS n)) w) := by
  go_enter Tryz.func54, Tryz.ntmps54
  go_wp2_with (go_at_call 126; refine (f126_int n hn _).mono ?_; rintro e w1 ⟨rfl, h⟩)
  go_wp2
  go_ret
  exact ⟨rfl, below_box h⟩
theorem f54_str (s : ByteArray) (hs : s.size ≤ 1048576) (w : World) : Calls Tryz.prog 54 #[.agg #[.int .i64 2, .int .i64 0, .string s, .slice none 0 0]] w (Ret (.string (quoteS s)) w) := by
  go_enter Tryz.func54, Tryz.ntmps54
  go_wp2_with (go_at_call 126; refine (f126_str s hs _).mono ?_; rintro e w1 ⟨rfl, h⟩)
  go_wp2
  go_ret
  exact ⟨rfl, below_box h⟩

set_option maxHeartbeats 1000000 in
theorem f18_Text (k : Int) (s : ByteArray) (n p : Int) (w : World) (hs : s.size ≤ 1048576) (hn : I64n n) :
    Calls Tryz.prog 18 #[.agg #[.int .i64 k, .string s, .int .i64 n, .int .i64 p]] w (Ret (.string (Tok.txt ⟨k, s, n, p⟩)) w) := by
  generalize hR : Tok.txt ⟨k, s, n, p⟩ = R
  have HR := Lib.hid hR
  clear hR
  cases ho : Tok.ok ⟨k, s, n, p⟩
  · have hR : R = ⟨#[]⟩ := by rw [← HR.out]; simp [Tok.txt, ho]
    subst hR
    clear HR
    go_enter Tryz.func18, Tryz.ntmps18
    go_wp2_with (go_at_call 16; refine (f16_Check k s n p _ hs).mono ?_; rw [ho]; rintro e w1 ⟨rfl, h⟩)
    go_wp2
    go_ret
    exact ⟨rfl, below_box h⟩
  · have ho' : Hid (Tok.ok ⟨k, s, n, p⟩ = true) := ho
    clear ho
    by_cases hk' : k = 2
    · have hR : R = decS n := by rw [← HR.out]; unfold Tok.txt; rw [if_pos ho'.out, if_pos hk']
      clear HR
      subst hk' hR
      go_enter Tryz.func18, Tryz.ntmps18
      go_wp2_with (go_at_call 16; refine (f16_Check _ _ n p _ hs).mono ?_; rw [ho'.out, show checkE true = 0 from rfl]; rintro e w1 ⟨rfl, h⟩; obtain ⟨c0, c1, c2, c3⟩ := box4 h; have hb1 := below_box h; clear h)
      refine (f77_Int n w1).mono ?_
      rintro e w2 ⟨rfl, h2⟩
      go_wp2_with fail
      refine (f54_int n hn w2).mono ?_
      rintro e w3 ⟨rfl, h3⟩
      go_wp2
      go_ret
      exact ⟨rfl, (hb1.trans (h2.mono hb1.size)).trans (h3.mono (Nat.le_trans hb1.size h2.size))⟩
    · by_cases hk : k = 3
      · have hR : R = quoteS s := by rw [← HR.out]; unfold Tok.txt; rw [if_pos ho'.out, if_neg hk', if_pos hk]
        clear HR hk'
        subst hk hR
        go_enter Tryz.func18, Tryz.ntmps18
        go_wp2_with (go_at_call 16; refine (f16_Check _ _ n p _ hs).mono ?_; rw [ho'.out, show checkE true = 0 from rfl]; rintro e w1 ⟨rfl, h⟩; obtain ⟨c0, c1, c2, c3⟩ := box4 h; have hb1 := below_box h; clear h)
        refine (f78_Str s w1).mono ?_
        rintro e w2 ⟨rfl, h2⟩
        go_wp2_with fail
        refine (f54_str s hs w2).mono ?_
        rintro e w3 ⟨rfl, h3⟩
        go_wp2
        go_ret
        exact ⟨rfl, (hb1.trans (h2.mono hb1.size)).trans (h3.mono (Nat.le_trans hb1.size h2.size))⟩
      · have hR : R = s := by rw [← HR.out]; simp [Tok.txt, ho'.out, hk', hk]
        have e2 : (k == 2) = false := by simpa using hk'
        have e3 : (k == 3) = false := by simpa using hk
        clear HR hk' hk
        subst hR
        go_enter Tryz.func18, Tryz.ntmps18
        go_wp2_with (go_at_call 16; refine (f16_Check _ _ n p _ hs).mono ?_; rw [ho'.out, show checkE true = 0 from rfl]; rintro e w1 ⟨rfl, h⟩; obtain ⟨c0, c1, c2, c3⟩ := box4 h; have hb1 := below_box h; clear h)
        go_wp2
        go_ret
        exact ⟨rfl, hb1⟩
end Go.Proofs.YtijgmloodkbljaaGreatDoor
