import Derived.Test.YtijgmloodkbljaaGreatDoorQu2
import Derived.WalkSmall
import Derived.Handy
import Derived.Lib.LaidTab
namespace Go.Proofs.YtijgmloodkbljaaGreatDoor
open Go Go.RowKit

/-- What the row lists of the standard library's variables, as far as the walks read it. -/
structure Laid (w : World) : Prop where
  bits : w.cell? ⟨7, 15, none⟩ = some (.int .u8 4)
  tab : Lib.TabIs Tryz.prog w "internal/strconv.uint64pow10" .u64 Lib.pow10Tab
  size : 8 ≤ w.heap.size

theorem gTab : Tryz.prog.globalNamed "internal/strconv.uint64pow10" = some 3 := by kernel_rfl
theorem Laid.below {w w' : World} {B : Nat} (h : Laid w) (hb : Below B w w') (hB : 8 ≤ B) : Laid w' := by
  refine ⟨(hb.cell (p := ⟨7, 15, none⟩) (show 7 < B by omega)).trans h.bits, var?_below hb gTab (by omega) h.tab, ?_⟩
  have := hb.size
  have := h.size
  omega
theorem Laid.alloc {w : World} (h : Laid w) (o : Obj) : Laid (w.alloc o) := h.below ((Below.refl w.heap.size w).alloc (Nat.le_refl _) o) h.size
theorem Laid.ret {w w' : World} (h : Laid w) (hb : Below w.heap.size w w') : Laid w' := h.below hb h.size

def I64n (n : Int) : Prop := -9223372036854775808 ≤ n ∧ n ≤ 9223372036854775807
def decS (n : Int) : ByteArray := ⟨(Lib.itoa n).toArray⟩
def quoteS (s : ByteArray) : ByteArray := ⟨(quoteL s.data.toList).toArray⟩

theorem grow_below (w : World) (k : Nat) (os : Array Obj) : Below w.heap.size w (Go.Sort.grow (w.drewN k) os) :=
  ⟨rfl, rfl, rfl, by show w.heap.size ≤ (w.heap ++ os).size; simp, fun i hi => by
    show (w.heap ++ os)[i]? = w.heap[i]?
    rw [Array.getElem?_append_left hi]⟩
theorem box4 {w w1 : World} {a b c d : Value} {t : TypeId} (h : Below (w.alloc (.cells #[a, b, c, d] t)).heap.size (w.alloc (.cells #[a, b, c, d] t)) w1) :
    w1.cell? ⟨w.heap.size, 0, none⟩ = some a ∧ w1.cell? ⟨w.heap.size, 1, none⟩ = some b ∧ w1.cell? ⟨w.heap.size, 2, none⟩ = some c ∧ w1.cell? ⟨w.heap.size, 3, none⟩ = some d := by
  have e : ∀ i, w1.cell? ⟨w.heap.size, i, none⟩ = (w.alloc (.cells #[a, b, c, d] t)).cell? ⟨w.heap.size, i, none⟩ := fun i => h.cell (p := ⟨w.heap.size, i, none⟩) (by simp)
  simp only [e]
  simp
theorem f189_10 (n : Int) (hn : I64n n) (w : World) (hL : Laid w) : Calls Tryz.prog 189 #[.int .i64 n, .int .i64 10] w (Ret (.string (decS n)) w) :=
  (Tryz.strconv_FormatInt_10 n hn.1 hn.2 w hL.tab).mono fun e w' ⟨he, k, os, hw⟩ => ⟨he, by subst hw; exact grow_below _ _ _⟩
theorem f108_Text (n : Int) (hn : I64n n) (w : World) (hL : Laid w) : Calls Tryz.prog 108 #[.int .i64 n] w (Ret (.string (decS n)) w) := by
  go_enter Tryz.func108, Tryz.ntmps108
  go_wp2_with fail
  refine (f189_10 n hn w hL).mono ?_
  rintro e w1 ⟨rfl, h⟩
  go_wp2
  go_ret
  exact ⟨rfl, h⟩
theorem f75_Int (n : Int) (w : World) : Calls Tryz.prog 75 #[.int .i64 n] w (Ret (.agg #[.int .i64 1, .int .i64 n, .string ⟨#[]⟩, .slice none 0 0]) w) := by
  go_enter Tryz.func75, Tryz.ntmps75
  go_wp2
  go_returns
  exact ⟨rfl, by go_grown⟩
theorem f76_Str (s : ByteArray) (w : World) : Calls Tryz.prog 76 #[.string s] w (Ret (.agg #[.int .i64 2, .int .i64 0, .string s, .slice none 0 0]) w) := by
  go_enter Tryz.func76, Tryz.ntmps76
  go_wp2
  go_returns
  exact ⟨rfl, by go_grown⟩
theorem f158_int (n : Int) (hn : I64n n) (w : World) (hL : Laid w) : Calls Tryz.prog 158 #[.agg #[.int .i64 1, .int .i64 n, .string ⟨#[]⟩, .slice none 0 0], .int .i64 1] w (Ret (.string (decS n)) w) := by
  go_enter Tryz.func158, Tryz.ntmps158
  go_wp2_with (go_at_call 108; refine (f108_Text n hn _ (hL.alloc _)).mono ?_; rintro e w1 ⟨rfl, h⟩)
  go_wp2
  go_ret
  exact ⟨rfl, below_box h⟩
theorem f158_str (s : ByteArray) (hs : s.size ≤ 1048576) (w : World) (hL : Laid w) : Calls Tryz.prog 158 #[.agg #[.int .i64 2, .int .i64 0, .string s, .slice none 0 0], .int .i64 1] w (Ret (.string (quoteS s)) w) := by
  go_enter Tryz.func158, Tryz.ntmps158
  go_wp2_with (go_at_call 225; refine (f225_quote s _ hs (hL.alloc _).bits).mono ?_; rintro e w1 ⟨rfl, h⟩)
  go_wp2
  go_ret
  exact ⟨rfl, below_box h⟩
theorem f74_int (n : Int) (hn : I64n n) (w : World) (hL : Laid w) : Calls Tryz.prog 74 #[.agg #[.int .i64 1, .int .i64 n, .string ⟨#[]⟩, .slice none 0 0]] w (Ret (.string (decS n)) w) := by
  go_enter Tryz.func74, Tryz.ntmps74
  go_wp2_with (go_at_call 158; refine (f158_int n hn _ (hL.alloc _)).mono ?_; rintro e w1 ⟨rfl, h⟩)
  go_wp2
  go_ret
  exact ⟨rfl, below_box h⟩
theorem f74_str (s : ByteArray) (hs : s.size ≤ 1048576) (w : World) (hL : Laid w) : Calls Tryz.prog 74 #[.agg #[.int .i64 2, .int .i64 0, .string s, .slice none 0 0]] w (Ret (.string (quoteS s)) w) := by
  go_enter Tryz.func74, Tryz.ntmps74
  go_wp2_with (go_at_call 158; refine (f158_str s hs _ (hL.alloc _)).mono ?_; rintro e w1 ⟨rfl, h⟩)
  go_wp2
  go_ret
  exact ⟨rfl, below_box h⟩

def Tok.txt (t : Tok) : ByteArray := if t.ok = true then (if t.kind = 2 then decS t.n else if t.kind = 3 then quoteS t.text else t.text) else ⟨#[]⟩
set_option maxHeartbeats 1000000 in
theorem f17_Text (k : Int) (s : ByteArray) (n p : Int) (w : World) (hs : s.size ≤ 1048576) (hn : I64n n) (hL : Laid w) :
    Calls Tryz.prog 17 #[.agg #[.int .i64 k, .string s, .int .i64 n, .int .i64 p]] w (Ret (.string (Tok.txt ⟨k, s, n, p⟩)) w) := by
  generalize hR : Tok.txt ⟨k, s, n, p⟩ = R
  have HR := Lib.hid hR
  clear hR
  cases ho : Tok.ok ⟨k, s, n, p⟩
  · have hR : R = ⟨#[]⟩ := by rw [← HR.out]; simp [Tok.txt, ho]
    subst hR
    clear HR
    go_enter Tryz.func17, Tryz.ntmps17
    go_wp2_with (go_at_call 15; refine (f15_Check k s n p _ hs).mono ?_; rw [ho]; rintro e w1 ⟨rfl, h⟩)
    go_wp2
    go_ret
    exact ⟨rfl, below_box h⟩
  · have ho' : Hid (Tok.ok ⟨k, s, n, p⟩ = true) := ho
    clear ho
    by_cases hk' : k = 2
    · have hR : R = decS n := by rw [← HR.out]; unfold Tok.txt; rw [if_pos ho'.out, if_pos hk']
      clear HR
      subst hk' hR
      go_enter Tryz.func17, Tryz.ntmps17
      go_wp2_with (go_at_call 15; refine (f15_Check _ _ n p _ hs).mono ?_; rw [ho'.out, show checkE true = 0 from rfl]; rintro e w1 ⟨rfl, h⟩; obtain ⟨c0, c1, c2, c3⟩ := box4 h; have hL1 := (hL.alloc _).ret h; have hb1 := below_box h; clear h)
      refine (f75_Int n w1).mono ?_
      rintro e w2 ⟨rfl, h2⟩
      go_wp2_with fail
      refine (f74_int n hn w2 (hL1.ret h2)).mono ?_
      rintro e w3 ⟨rfl, h3⟩
      go_wp2
      go_ret
      exact ⟨rfl, (hb1.trans (h2.mono hb1.size)).trans (h3.mono (Nat.le_trans hb1.size h2.size))⟩
    · by_cases hk : k = 3
      · have hR : R = quoteS s := by rw [← HR.out]; unfold Tok.txt; rw [if_pos ho'.out, if_neg hk', if_pos hk]
        clear HR hk'
        subst hk hR
        go_enter Tryz.func17, Tryz.ntmps17
        go_wp2_with (go_at_call 15; refine (f15_Check _ _ n p _ hs).mono ?_; rw [ho'.out, show checkE true = 0 from rfl]; rintro e w1 ⟨rfl, h⟩; obtain ⟨c0, c1, c2, c3⟩ := box4 h; have hL1 := (hL.alloc _).ret h; have hb1 := below_box h; clear h)
        refine (f76_Str s w1).mono ?_
        rintro e w2 ⟨rfl, h2⟩
        go_wp2_with fail
        refine (f74_str s hs w2 (hL1.ret h2)).mono ?_
        rintro e w3 ⟨rfl, h3⟩
        go_wp2
        go_ret
        exact ⟨rfl, (hb1.trans (h2.mono hb1.size)).trans (h3.mono (Nat.le_trans hb1.size h2.size))⟩
      · have hR : R = s := by rw [← HR.out]; simp [Tok.txt, ho'.out, hk', hk]
        have e2 : (k == 2) = false := by simpa using hk'
        have e3 : (k == 3) = false := by simpa using hk
        clear HR hk' hk
        subst hR
        go_enter Tryz.func17, Tryz.ntmps17
        go_wp2_with (go_at_call 15; refine (f15_Check _ _ n p _ hs).mono ?_; rw [ho'.out, show checkE true = 0 from rfl]; rintro e w1 ⟨rfl, h⟩; obtain ⟨c0, c1, c2, c3⟩ := box4 h; have hL1 := (hL.alloc _).ret h; have hb1 := below_box h; clear h)
        go_wp2
        go_ret
        exact ⟨rfl, hb1⟩
end Go.Proofs.YtijgmloodkbljaaGreatDoor
