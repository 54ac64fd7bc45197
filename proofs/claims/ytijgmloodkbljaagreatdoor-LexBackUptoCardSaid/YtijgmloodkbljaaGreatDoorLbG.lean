import Derived.Test.YtijgmloodkbljaaGreatDoorLbF
import Derived.Defers
import Derived.Recover
import Derived.Handy
import Derived.Deep.RegionWith
import Derived.Test.YtijgmloodkbljaaGreatDoorLbA
import Derived.Lib.ItoaNum
namespace Go.Proofs.YtijgmloodkbljaaGreatDoor
open Go Go.RowKit

/-- The reader at block r: the text, and where it stands. -/
def RdAt (r : Nat) (s : ByteArray) (k : Nat) (w : World) : Prop := w.heap[r]? = some (.cells #[.string s, .int .i64 (k : Int)] 265)
theorem RdAt.set {c : Nat} {s : ByteArray} {k : Nat} {w : World} (h : RdAt c s k w) (j : Nat) : RdAt c s j (w.setCell ⟨c, 1, none⟩ (.int .i64 (j : Int))) ∧ GC c w (w.setCell ⟨c, 1, none⟩ (.int .i64 (j : Int))) :=
  setCell_block w c 1 _ _ _ h

set_option maxHeartbeats 1000000 in
theorem f309_in (r : Nat) (s : ByteArray) (k : Nat) (w : World) (h : RdAt r s k w) (hk : k < s.size) :
    Calls Tryz.prog 309 #[.pointer (some ⟨r, 0, none⟩)] w (Ret (.int .u8 (s[k]'hk).toNat) w) := by
  have c0 : w.cell? ⟨r, 0, none⟩ = some (.string s) := Lib.cell_of_heap h 0
  have c1 : w.cell? ⟨r, 1, none⟩ = some (.int .i64 k) := Lib.cell_of_heap h 1
  have hlt : (k : Int) < s.size := by omega
  go_enter Tryz.func309, Tryz.ntmps309
  go_wp2
  go_quiet (fail)
  go_wp2
  generalize hw2 : w.drewN _ = w2
  have d0 : w2.cell? ⟨r, 0, none⟩ = some (.string s) := by rw [← hw2]; exact c0
  have d1 : w2.cell? ⟨r, 1, none⟩ = some (.int .i64 k) := by rw [← hw2]; exact c1
  have hb : Below w.heap.size w w2 := by rw [← hw2]; exact ⟨rfl, rfl, rfl, Nat.le_refl _, fun _ _ => rfl⟩
  clear hw2 c0 c1
  go_quiet (fail)
  go_wp2
  go_ret
  exact ⟨rfl, ⟨hb.os, hb.tape, hb.output, hb.size, hb.block⟩⟩
set_option maxHeartbeats 1000000 in
theorem f309_end (r : Nat) (s : ByteArray) (k : Nat) (w : World) (h : RdAt r s k w) (hk : s.size ≤ k) :
    Calls Tryz.prog 309 #[.pointer (some ⟨r, 0, none⟩)] w (Ret (.int .u8 0) w) := by
  have c0 : w.cell? ⟨r, 0, none⟩ = some (.string s) := Lib.cell_of_heap h 0
  have c1 : w.cell? ⟨r, 1, none⟩ = some (.int .i64 k) := Lib.cell_of_heap h 1
  have hlt : (s.size : Int) ≤ k := by omega
  go_enter Tryz.func309, Tryz.ntmps309
  go_wp2
  go_quiet (fail)
  go_wp2
  go_ret
  exact ⟨rfl, ⟨rfl, rfl, rfl, Nat.le_refl _, fun _ _ => rfl⟩⟩
abbrev one1 : ByteArray := ⟨#[49]⟩

set_option maxHeartbeats 2000000 in
theorem f255_one (g : Nat) (cap : Nat) (w : World) (h : w.cell? ⟨g, 0, none⟩ = some (.int .u8 49)) : Calls Tryz.prog 255 #[.slice (some ⟨g, 0, none⟩) 1 cap, .func (.func 193) #[] #[]] w (Same (.int .i64 (-1)) w) := by
  go_enter Tryz.func255, Tryz.ntmps255
  go_wp2
  go_rounds 2
  all_goals go_wp2
  go_ret
  exact ⟨rfl, rfl⟩
theorem f192_one (g : Nat) (cap : Nat) (w : World) (h : w.cell? ⟨g, 0, none⟩ = some (.int .u8 49)) : Calls Tryz.prog 192 #[.slice (some ⟨g, 0, none⟩) 1 cap, .func (.func 193) #[] #[]] w (Same (.bool false) w) := by
  go_enter Tryz.func192, Tryz.ntmps192
  go_wp2_with (go_at_call 255; refine (f255_one g cap w h).mono ?_; rintro e w1 ⟨rfl, rfl⟩)
  go_ret
  exact ⟨rfl, rfl⟩
theorem bytesW_below (w : World) (t : ByteArray) : Below w.heap.size w (Lib.bytesWorld w 5 t) := ⟨rfl, rfl, rfl, by rw [Lib.bytesWorld_size]; omega, fun k hk => Lib.bytesWorld_at_old w 5 t k hk⟩
theorem f194_one (w : World) : Calls Tryz.prog 194 #[.string one1, .int .i64 10, .int .i64 64] w (Ret (.tuple #[.int .i64 1, .nilIface]) w) :=
  (Tryz.strconv_ParseInt_10_at64_ok one1 (by decide) 1 (by decide +kernel) w).mono fun e w' ⟨he, hw⟩ => ⟨he, by
    rcases hw with rfl | ⟨t, rfl⟩
    · exact Below.refl _ _
    · exact bytesW_below _ _⟩

set_option maxHeartbeats 2000000 in
set_option maxRecDepth 100000 in
theorem f113_one (w : World) : Calls Tryz.prog 113 #[.string one1] w (Ret (.tuple #[.int .i64 1, .int .i64 0]) w) := by
  have hcv := fun W => Lib.run_convert_string_bytes (P := Tryz.prog) W 9 65 5 one1 Tryz.underlying9 Tryz.underlying65 Tryz.underlying5
  have hc : (Lib.bytesWorld w 5 one1).cell? ⟨w.heap.size, 0, none⟩ = some (.int .u8 49) := Lib.bytesWorld_cell w 5 one1 0 (by decide)
  have hb := bytesW_below w one1
  go_enter Tryz.func113, Tryz.ntmps113
  go_wp2_with (go_at_call 192; refine (f192_one _ _ _ hc).mono ?_; rintro e w1 ⟨rfl, rfl⟩)
  generalize Lib.bytesWorld w 5 one1 = W1 at *
  go_wp2_with fail
  refine (f194_one _).mono ?_
  rintro e w2 ⟨rfl, hb2⟩
  go_wp2
  go_ret2
  exact ⟨rfl, hb.trans (hb2.mono hb.size)⟩

theorem f113_ext (t : ByteArray) (ht : t = one1) (w : World) : Calls Tryz.prog 113 #[.string t] w (Ret (.tuple #[.int .i64 1, .int .i64 0]) w) := by
  subst ht
  exact f113_one w

/-- recover finds nothing: it turns nothing. -/
theorem f235_idle (p q r : Addr) (w : World) : CallsD Tryz.prog 235 #[.pointer (some p), .pointer (some q), .pointer (some r)] .returning w fun e u' w' => e = .returned (.tuple #[]) ∧ u' = .returning ∧ w' = w := by
  refine callsD_of_wpS Tryz.func235 rfl fun c₀ cs hu => ?_
  apply wpS_seq
  apply wpS_region
  simp [wpOpsS, go_sem, recoverD, hu, Tryz.ntmps235, Exit.thenS]
  apply wpS_seq
  apply wpS_seq
  apply wpS_region
  simp [wpOpsS, go_sem, Exit.thenS]
  refine wpS_cond (t := true) (by simp [Act.eval, Array.replicate]) ?_
  simp only [if_true]
  refine wpS_of_wp (wp_ret ?_)
  cases c₀
  simp_all [bodyPostS, results, Tryz.f235, Exit.thenS]

theorem RdAt.below {r k : Nat} {s : ByteArray} {w w' : World} (h : RdAt r s k w) (hb : Below w.heap.size w w') : RdAt r s k w' := (hb.block r (Array.getElem?_eq_some_iff.1 h).1).trans h
def RetR (v : Value) (r : Nat) (s : ByteArray) (k : Nat) (w : World) (e : Ending) (w' : World) : Prop := e = .returned v ∧ RdAt r s k w' ∧ GC r w w'

theorem f309_one (r : Nat) (w : World) (h : RdAt r one1 0 w) : Calls Tryz.prog 309 #[.pointer (some ⟨r, 0, none⟩)] w (Ret (.int .u8 49) w) := f309_in r one1 0 w h (by decide)
theorem ext1 : one1.extract 0 1 = one1 := by decide +kernel
set_option maxHeartbeats 4000000 in
set_option maxRecDepth 100000 in
theorem f311_one (r : Nat) (w : World) (h : RdAt r one1 0 w) : Calls Tryz.prog 311 #[.pointer (some ⟨r, 0, none⟩)] w (RetR (.int .i64 1) r one1 1 w) := by
  have c0 : w.cell? ⟨r, 0, none⟩ = some (.string one1) := Lib.cell_of_heap h 0
  have c1 : w.cell? ⟨r, 1, none⟩ = some (.int .i64 0) := Lib.cell_of_heap h 1
  go_enter Tryz.func311, Tryz.ntmps311
  go_wp2_with (go_at_call 309; refine (f309_one r _ h).mono ?_)
  rintro e w1 ⟨rfl, h1⟩
  have hr1 := h.below h1
  clear c0 c1
  have c0 : w1.cell? ⟨r, 0, none⟩ = some (.string one1) := Lib.cell_of_heap hr1 0
  have c1 : w1.cell? ⟨r, 1, none⟩ = some (.int .i64 0) := Lib.cell_of_heap hr1 1
  go_wp2_with fail
  refine (f309_one r _ hr1).mono ?_
  rintro e w2 ⟨rfl, h2⟩
  have hr2 := hr1.below h2
  go_wp2_with fail
  refine (f310_digit 49 _).mono ?_
  rintro e w2' ⟨rfl, rfl⟩
  have hd49 : digB 49 = true := by decide
  have hd0 : digB 0 = false := by decide
  rw [hd49]
  go_wp2
  have hb2 : Below w.heap.size w w2 := h1.trans (h2.mono h1.size)
  have hrl : r < w.heap.size := (Array.getElem?_eq_some_iff.1 h).1
  clear c0 c1
  go_loopw [5] (fun v wr => (v = .int .i64 0 ∧ RdAt r one1 0 wr ∧ GC r w wr) ∨ (v = .int .i64 1 ∧ RdAt r one1 1 wr ∧ GC r w wr)) (fun v _ => 1 - (intOf v).toNat)
  case atStart => exact .inl ⟨rfl, hr2, GC.of_below hb2⟩
  case round =>
    rcases hrel with ⟨rfl, hr3, hg3⟩ | ⟨rfl, hr3, hg3⟩
    · go_wp2_with fail
      refine (f309_one r _ hr3).mono ?_
      rintro e w3 ⟨rfl, h3⟩
      have hr4 := hr3.below h3
      have hg4 := hg3.trans (GC.of_below h3)
      go_wp2_with fail
      refine (f310_digit 49 _).mono ?_
      rintro e w4 ⟨rfl, rfl⟩
      rw [hd49]
      have c0 : w3.cell? ⟨r, 0, none⟩ = some (.string one1) := Lib.cell_of_heap hr4 0
      have c1 : w3.cell? ⟨r, 1, none⟩ = some (.int .i64 0) := Lib.cell_of_heap hr4 1
      go_wp2
      go_region_with (go_at_call 113; refine (f113_ext _ (by decide +kernel) _).mono ?_; rintro e w5 ⟨rfl, h5⟩)
      all_goals
        have hr5 : RdAt r one1 0 w5 := RdAt.below (w := w3.drew) hr4 h5
        have hg5 : GC r w w5 := hg4.trans ⟨h5.os, h5.tape, h5.output, h5.size, fun k hk _ => h5.block k hk⟩
        have k1 : w5.cell? ⟨r, 1, none⟩ = some (.int .i64 0) := Lib.cell_of_heap hr5 1
        have kf : w5.frozen? ⟨r, 1, none⟩ = false := Lib.frozen_of_heap hr5 1
        obtain ⟨hr6, hg6⟩ := hr5.set 1
        have hfin : RdAt r one1 1 (w5.setCell ⟨r, 1, none⟩ (.int .i64 1)) ∧ GC r w (w5.setCell ⟨r, 1, none⟩ (.int .i64 1)) := ⟨hr6, hg5.trans hg6⟩
        clear hr6 hg6
        go_wp2
        go_roundw
        case rel => exact .inr ⟨rfl, hfin⟩
        case measure => simp [intOf]
    · go_wp2_with fail
      refine (f309_end r one1 1 _ hr3 (by decide)).mono ?_
      rintro e w3 ⟨rfl, h3⟩
      go_wp2_with fail
      refine (f310_digit 0 _).mono ?_
      rintro e w4 ⟨rfl, rfl⟩
      rw [hd0]
      have hfin : RdAt r one1 1 w3 ∧ GC r w w3 := ⟨hr3.below h3, hg3.trans (GC.of_below h3)⟩
      go_wp2
      go_ret
      exact ⟨rfl, hfin⟩
end Go.Proofs.YtijgmloodkbljaaGreatDoor

namespace Go.Proofs.YtijgmloodkbljaaGreatDoor
open Go

theorem toNat_ofNat (n : Nat) (h : n < 256) : (UInt8.ofNat n).toNat = n := by
  simp; omega
theorem decV_snoc (l : List UInt8) (c : UInt8) : decV (l ++ [c]) = decV l * 10 + (c.toNat - 48) := by
  unfold decV; rw [List.foldl_append]; rfl
theorem decDigits_facts (u : Nat) : decV (Lib.decDigits u) = u ∧ (∀ c ∈ Lib.decDigits u, digU c = true) ∧ ∃ c r, Lib.decDigits u = c :: r ∧ (c = 48 → u = 0 ∧ r = []) := by
  induction u using Nat.strongRecOn with
  | _ u ih =>
    rw [Lib.decDigits]
    by_cases h : u < 10
    · rw [dif_pos h]
      have e : (UInt8.ofNat (48 + u)).toNat = 48 + u := toNat_ofNat _ (by omega)
      refine ⟨?_, ?_, _, _, rfl, fun h2 => ⟨?_, rfl⟩⟩
      · show 0 * 10 + ((UInt8.ofNat (48 + u)).toNat - 48) = u
        rw [e]; omega
      · intro c hc
        obtain rfl : c = UInt8.ofNat (48 + u) := by simpa using hc
        simp only [digU, e]; simp; omega
      · have := congrArg UInt8.toNat h2
        rw [e] at this
        have e48 : (48 : UInt8).toNat = 48 := rfl
        omega
    · rw [dif_neg h]
      obtain ⟨h1, h2, c, r, h3, h4⟩ := ih (u / 10) (by omega)
      have e : (UInt8.ofNat (48 + u % 10)).toNat = 48 + u % 10 := toNat_ofNat _ (by omega)
      refine ⟨?_, ?_, c, r ++ [UInt8.ofNat (48 + u % 10)], by rw [h3]; rfl, fun h5 => ?_⟩
      · rw [decV_snoc, h1, e]; omega
      · intro x hx
        rcases List.mem_append.1 hx with hx | hx
        · exact h2 x hx
        · obtain rfl : x = UInt8.ofNat (48 + u % 10) := by simpa using hx
          simp only [digU, e]; simp; omega
      · have := (h4 h5).1; omega

theorem takeWhile_app {p : UInt8 → Bool} (l r : List UInt8) (h : ∀ c ∈ l, p c = true) (hr : ∀ c x, r = c :: x → p c = false) : (l ++ r).takeWhile p = l ∧ (l ++ r).dropWhile p = r := by
  induction l with
  | nil =>
    cases r with
    | nil => exact ⟨rfl, rfl⟩
    | cons c x => simp [hr c x rfl]
  | cons a l ih =>
    have ha := h a (by simp)
    have := ih (fun c hc => h c (by simp [hc]))
    simp [ha, this]

/-- A number's digits are read back. -/
theorem numP_itoa (n : Int) (h1 : -9223372036854775808 ≤ n) (h2 : n ≤ 9223372036854775807) (r : List UInt8) (hr : ∀ c x, r = c :: x → digU c = false) : numP (Lib.itoa n ++ r) = some (n, r) := by
  unfold Lib.itoa
  by_cases hn : n < 0
  · rw [if_pos hn]
    obtain ⟨d1, d2, c, x, d3, d4⟩ := decDigits_facts n.natAbs
    have hx : Lib.decDigits n.natAbs ++ r = c :: (x ++ r) := by rw [d3]; rfl
    obtain ⟨t1, t2⟩ := takeWhile_app (p := digU) _ r d2 hr
    have hc : digU c = true := d2 c (by rw [d3]; simp)
    have hc0 : c ≠ 48 := fun e => by have := (d4 e).1; omega
    unfold numP
    simp only [List.cons_append, List.head?_cons, beq_self_eq_true, if_true, List.tail_cons]
    rw [hx]
    simp only [hc, Bool.true_eq_false, if_false, if_neg hc0]
    rw [← hx, t1, t2, d1, if_pos (by omega)]
    congr 2
    omega
  · rw [if_neg hn]
    obtain ⟨d1, d2, c, x, d3, d4⟩ := decDigits_facts n.toNat
    have hx : Lib.decDigits n.toNat ++ r = c :: (x ++ r) := by rw [d3]; rfl
    obtain ⟨t1, t2⟩ := takeWhile_app (p := digU) _ r d2 hr
    have hc : digU c = true := d2 c (by rw [d3]; simp)
    have hneg : (some c == some (45 : UInt8)) = false := by
      cases h : (some c == some (45 : UInt8))
      · rfl
      · have : c = 45 := by simpa using h
        rw [this] at hc
        exact absurd hc (by decide)
    unfold numP
    rw [hx]
    simp only [List.head?_cons, hneg, Bool.false_eq_true, if_false, hc, Bool.true_eq_false]
    by_cases hc0 : c = 48
    · obtain ⟨e1, e2⟩ := d4 hc0
      rw [if_pos hc0, e2, List.nil_append]
      congr 2
      omega
    · rw [if_neg hc0, ← hx, t1, t2, d1, if_pos (by omega)]
      congr 2
      omega

theorem hexV_hexD (n : Nat) (h : n < 16) : hexV (hexD n) = some n := by
  have : ∀ k : Fin 16, hexV (hexD k.1) = some k.1 := by decide +kernel
  exact this ⟨n, h⟩
theorem escP_hex (c : UInt8) (h : c.toNat < 32 ∨ 126 < c.toNat) (r : List UInt8) : escP (120 :: hexD (c.toNat / 16) :: hexD (c.toNat % 16) :: r) = some (c, r) := by
  have hlt := c.toNat_lt
  unfold escP
  dsimp only
  rw [if_neg (by decide), if_pos rfl]
  simp only [hexV_hexD _ (show c.toNat / 16 < 16 by omega), hexV_hexD _ (show c.toNat % 16 < 16 by omega)]
  rw [if_neg (by omega)]
  have : (16 * (c.toNat / 16) + c.toNat % 16).toUInt8 = c := by
    rw [show 16 * (c.toNat / 16) + c.toNat % 16 = c.toNat by omega]
    simp
  rw [this]
/-- One byte's text is read back. -/
theorem strP_qc (c : UInt8) (l : List UInt8) : strP (qc c ++ l) = (strP l).map fun x => (c :: x.1, x.2) := by
  unfold qc
  by_cases h : c.toNat < 32 ∨ 126 < c.toNat
  · rw [if_pos h]
    simp only [List.cons_append, List.nil_append]
    rw [strP_cons, if_neg (by decide), if_neg (by decide), if_pos rfl, escP_hex c h l]
    rfl
  · rw [if_neg h]
    by_cases h2 : c = 39 ∨ c = 92
    · rw [if_pos h2]
      simp only [List.cons_append, List.nil_append]
      have he : escP (c :: l) = some (c, l) := by unfold escP; dsimp only; rw [if_pos h2]
      rw [strP_cons, if_neg (by decide), if_neg (by decide), if_pos rfl, he]
      rfl
    · rw [if_neg h2]
      show strP (c :: l) = _
      rw [strP_cons, if_neg (fun e => h2 (.inl e)), if_neg h, if_neg (fun e => h2 (.inr e))]
/-- A string's text is read back. -/
theorem strP_quote (s r : List UInt8) : strP (s.flatMap qc ++ 39 :: r) = some (s, r) := by
  induction s with
  | nil => rw [List.flatMap_nil, List.nil_append, strP_cons, if_pos rfl]
  | cons c s ih =>
    rw [List.flatMap_cons, List.append_assoc, strP_qc, ih]
    rfl
end Go.Proofs.YtijgmloodkbljaaGreatDoor

namespace Go.Proofs.YtijgmloodkbljaaGreatDoor
open Go

mutual
/-- A value's text; so many levels left. -/
def textV : Nat → Val → List UInt8
  | 0, _ => [63]
  | d + 1, .mk k n s l =>
    if k = 1 then Lib.itoa n
    else if k = 2 then quoteL s.data.toList
    else if k = 3 then (if n = 1 then [116, 114, 117, 101] else [102, 97, 108, 115, 101])
    else if k = 6 then 118 :: 91 :: (Lib.itoa n ++ [93])
    else if k = 7 then 101 :: 91 :: (Lib.itoa n ++ [93])
    else if k = 4 then 91 :: (joinB [44, 32] (textL d l) ++ [93])
    else if k = 5 then 123 :: (joinB [44, 32] (pairsB (textL d l)) ++ [125])
    else [63]
def textL : Nat → List Val → List (List UInt8)
  | _, [] => []
  | d, v :: l => textV d v :: textL d l
end

/-- Are the numbers of a value within an int64? -/
def fitV : Val → Prop
  | .mk _ n _ _ => -9223372036854775808 ≤ n ∧ n ≤ 9223372036854775807

theorem mustP_app (a r : List UInt8) : mustP a (a ++ r) = some r := by
  induction a with
  | nil => cases r <;> rfl
  | cons c a ih => show (if c = c then mustP a (a ++ r) else none) = _; rw [if_pos rfl, ih]

/-- What a value's text may be followed by: no digit. -/
def endOk (r : List UInt8) : Prop := ∀ c x, r = c :: x → digU c = false

theorem empty_ba {s : ByteArray} (h : s.size = 0) : s = ⟨#[]⟩ := by
  obtain ⟨a⟩ := s
  have : a = #[] := Array.eq_empty_of_size_eq_zero h
  rw [this]
theorem bare_iff {s : ByteArray} {l : List Val} (h : bareB s l = true) : s = ⟨#[]⟩ ∧ l = [] := by
  unfold bareB at h
  simp only [Bool.and_eq_true, decide_eq_true_eq, List.isEmpty_iff] at h
  exact ⟨empty_ba h.1, h.2⟩
theorem itoa_head (n : Int) (r : List UInt8) : ∃ c x, Lib.itoa n ++ r = c :: x ∧ (c = 45 ∨ digU c = true) := by
  unfold Lib.itoa
  by_cases hn : n < 0
  · rw [if_pos hn]; exact ⟨45, _, rfl, .inl rfl⟩
  · rw [if_neg hn]
    obtain ⟨d1, d2, c, x, d3, d4⟩ := decDigits_facts n.toNat
    exact ⟨c, x ++ r, by rw [d3]; rfl, .inr (d2 c (by rw [d3]; simp))⟩
theorem elemP_itoa (k n : Int) (h1 : -9223372036854775808 ≤ n) (h2 : n ≤ 9223372036854775807) (r : List UInt8) : elemP k (91 :: (Lib.itoa n ++ [93]) ++ r) = some (.mk k n ⟨#[]⟩ [], r) := by
  unfold elemP
  have e : mustP [91] (91 :: (Lib.itoa n ++ [93]) ++ r) = some (Lib.itoa n ++ (93 :: r)) := by
    have := mustP_app [91] (Lib.itoa n ++ (93 :: r))
    simpa using this
  rw [e, Option.bind_some, numP_itoa n h1 h2 (93 :: r) (fun c x h => by cases h; decide), Option.bind_some]
  have : mustP [93] (93 :: r) = some r := mustP_app [93] r
  rw [this]
  rfl
theorem digU_f {c : UInt8} (h : digU c = false) : ¬ (digU c = true) := by rw [h]; decide

/-- The rounds over a list of texts. -/
theorem itemsP_text (p : List UInt8 → Option (Val × List UInt8)) (e : UInt8) (many : Bool) (he : digU e = false) (hec : e ≠ 44) :
    ∀ (gs : List (List Val × List UInt8)) (f : Nat) (first : Bool) (r : List UInt8),
      (∀ g ∈ gs, (∀ r', endOk r' → oneP p many (g.2 ++ r') = some (g.1, r')) ∧ (∀ r', (g.2 ++ r').head? ≠ some e)) →
      gs.length < f → (first = false → gs ≠ [] → True) →
      itemsP p e many f first ((if first then joinB [44, 32] (gs.map (·.2)) else gs.flatMap fun g => [44, 32] ++ g.2) ++ e :: r) = some (gs.flatMap (·.1), r) := by
  intro gs
  induction gs with
  | nil =>
    intro f first r _ hf _
    obtain ⟨f, rfl⟩ : ∃ k, f = k + 1 := ⟨f - 1, by simp at hf; omega⟩
    have : (if first = true then joinB [44, 32] (([] : List (List Val × List UInt8)).map (·.2)) else ([] : List (List Val × List UInt8)).flatMap fun g => [44, 32] ++ g.2) = [] := by
      cases first <;> rfl
    rw [this, List.nil_append, itemsP, List.head?_cons, if_pos rfl]
    rfl
  | cons g gs ih =>
    intro f first r hg hf _
    obtain ⟨f, rfl⟩ : ∃ k, f = k + 1 := ⟨f - 1, by simp at hf; omega⟩
    obtain ⟨hg1, hg2⟩ := hg g (by simp)
    have hrest := ih f false r (fun x hx => hg x (by simp [hx])) (by simp at hf; omega) (fun _ _ => trivial)
    simp only [Bool.false_eq_true, if_false] at hrest
    generalize hR : (gs.flatMap fun g => [44, 32] ++ g.2) ++ e :: r = R at hrest
    have hend : endOk R := by
      intro c x hc
      rw [← hR] at hc
      cases gs with
      | nil => simp at hc; rw [← hc.1]; exact he
      | cons g2 gs => simp at hc; rw [← hc.1]; decide
    have hhead : R.head? = some e ∨ R.head? = some 44 := by
      rw [← hR]
      cases gs with
      | nil => simp
      | cons g2 gs => simp
    have h1 : (if first = true then joinB [44, 32] ((g :: gs).map (·.2)) else (g :: gs).flatMap fun g => [44, 32] ++ g.2) ++ e :: r = (if first = true then [] else [44, 32]) ++ (g.2 ++ R) := by
      cases first with
      | false => simp [← hR]
      | true =>
        simp only [if_true, List.nil_append, List.map_cons]
        have hj : ∀ (x : List UInt8) (l : List (List Val × List UInt8)), joinB [44, 32] (x :: l.map (·.2)) = x ++ l.flatMap fun g => [44, 32] ++ g.2 := by
          intro x l
          induction l generalizing x with
          | nil => simp [joinB]
          | cons y l ih2 => rw [List.map_cons, joinB, ih2]; simp
        rw [hj, ← hR]
        simp
    rw [h1, itemsP]
    have hne : ¬ ((if first = true then [] else [44, 32]) ++ (g.2 ++ R)).head? = some e := by
      cases first with
      | false => simp; exact fun h => hec h.symm
      | true => simp only [if_true, List.nil_append]; exact hg2 R
    rw [if_neg hne]
    have hm : (if first = true then some ((if first = true then [] else [44, 32]) ++ (g.2 ++ R)) else mustP [44, 32] ((if first = true then [] else [44, 32]) ++ (g.2 ++ R))) = some (g.2 ++ R) := by
      cases first with
      | false => simp only [Bool.false_eq_true, if_false]; exact mustP_app [44, 32] _
      | true => rfl
    rw [hm, Option.bind_some, hg1 R hend, Option.bind_some, if_pos hhead, hrest]
    rfl

theorem textV_head (d : Nat) (v : Val) (h : mayV d v = true) : ∃ c x, textV d v = c :: x ∧ c ≠ 93 ∧ c ≠ 125 ∧ c ≠ 44 := by
  cases d with
  | zero => cases v; simp [mayV] at h
  | succ d =>
    obtain ⟨k, n, s, l⟩ := v
    unfold textV
    split
    · obtain ⟨c, x, h1, h2⟩ := itoa_head n []
      rw [List.append_nil] at h1
      rw [h1]
      refine ⟨c, x, rfl, ?_, ?_, ?_⟩ <;> (rintro rfl; rcases h2 with h2 | h2 <;> exact absurd h2 (by decide))
    · split
      · exact ⟨39, _, rfl, by decide, by decide, by decide⟩
      · split
        · split
          · exact ⟨116, _, rfl, by decide, by decide, by decide⟩
          · exact ⟨102, _, rfl, by decide, by decide, by decide⟩
        · split
          · exact ⟨118, _, rfl, by decide, by decide, by decide⟩
          · split
            · exact ⟨101, _, rfl, by decide, by decide, by decide⟩
            · split
              · exact ⟨91, _, rfl, by decide, by decide, by decide⟩
              · split
                · exact ⟨123, _, rfl, by decide, by decide, by decide⟩
                · exact ⟨63, _, rfl, by decide, by decide, by decide⟩
end Go.Proofs.YtijgmloodkbljaaGreatDoor

namespace Go.Proofs.YtijgmloodkbljaaGreatDoor
open Go

mutual
/-- Are all numbers of a value, with those within, within an int64? -/
def i64V : Val → Prop
  | .mk _ n _ l => (-9223372036854775808 ≤ n ∧ n ≤ 9223372036854775807) ∧ i64L l
def i64L : List Val → Prop
  | [] => True
  | v :: l => i64V v ∧ i64L l
end
theorem i64L_mem {l : List Val} (h : i64L l) : ∀ v ∈ l, i64V v := by
  induction l with
  | nil => intro v hv; cases hv
  | cons a l ih =>
    intro v hv
    rcases List.mem_cons.1 hv with rfl | hv
    · exact h.1
    · exact ih h.2 v hv
theorem mayL_mem {d : Nat} {l : List Val} (h : mayL d l = true) : ∀ v ∈ l, mayV d v = true := by
  induction l with
  | nil => intro v hv; cases hv
  | cons a l ih =>
    rw [mayL, Bool.and_eq_true] at h
    intro v hv
    rcases List.mem_cons.1 hv with rfl | hv
    · exact h.1
    · exact ih h.2 v hv
theorem textL_map (d : Nat) (l : List Val) : textL d l = l.map (textV d) := by
  induction l with
  | nil => rfl
  | cons a l ih => rw [textL, ih]; rfl

/-- The pairs of a map, each with its text. -/
def pairsG (d : Nat) : List Val → List (List Val × List UInt8)
  | a :: b :: l => ([a, b], textV d a ++ [58, 32] ++ textV d b) :: pairsG d l
  | _ => []
theorem pairsG_text (d : Nat) : ∀ (l : List Val), l.length % 2 = 0 → (pairsG d l).map (·.2) = pairsB (l.map (textV d)) ∧ (pairsG d l).flatMap (·.1) = l
  | [], _ => ⟨rfl, rfl⟩
  | [_], h => by simp at h
  | a :: b :: l, h => by
    have := pairsG_text d l (by simp at h; omega)
    refine ⟨?_, ?_⟩
    · show _ :: (pairsG d l).map (·.2) = _ :: pairsB (l.map (textV d))
      rw [this.1]
    · show [a, b] ++ (pairsG d l).flatMap (·.1) = _
      rw [this.2]; rfl
theorem join_len (gs : List (List Val × List UInt8)) (h : ∀ g ∈ gs, 0 < g.2.length) : gs.length ≤ (joinB [44, 32] (gs.map (·.2))).length := by
  induction gs with
  | nil => simp
  | cons g gs ih =>
    have h1 := h g (by simp)
    have h2 := ih (fun x hx => h x (by simp [hx]))
    cases gs with
    | nil => simp [joinB]; omega
    | cons g2 gs =>
      simp only [List.map_cons, joinB] at h2 ⊢
      simp only [List.length_append, List.length_cons] at h2 ⊢
      omega
theorem head_ne {l : List UInt8} {c e : UInt8} {x : List UInt8} (h : l = c :: x) (hne : c ≠ e) (r : List UInt8) : (l ++ r).head? ≠ some e := by
  rw [h]; simp; exact hne
theorem pairs_ok (d : Nat) (ih : ∀ v r, mayV d v = true → i64V v → endOk r → valP d (textV d v ++ r) = some (v, r)) :
    ∀ (l : List Val), mayL d l = true → i64L l → ∀ g ∈ pairsG d l, (∀ r', endOk r' → oneP (valP d) true (g.2 ++ r') = some (g.1, r')) ∧ (∀ r', (g.2 ++ r').head? ≠ some 125) ∧ 0 < g.2.length
  | [], _, _ => by intro g hg; cases hg
  | [_], _, _ => by intro g hg; cases hg
  | a :: b :: l, hm, hi => by
    intro g hg
    have ha := mayL_mem hm a (by simp)
    have hb := mayL_mem hm b (by simp)
    have ia := i64L_mem hi a (by simp)
    have ib := i64L_mem hi b (by simp)
    rcases List.mem_cons.1 hg with rfl | hg
    · obtain ⟨c, x, h1, h2, h3, h4⟩ := textV_head d a ha
      refine ⟨fun r' hr => ?_, fun r' => ?_, ?_⟩
      · unfold oneP
        have e : (textV d a ++ [58, 32] ++ textV d b) ++ r' = textV d a ++ ([58, 32] ++ (textV d b ++ r')) := by simp
        show (valP d ((textV d a ++ [58, 32] ++ textV d b) ++ r')).bind _ = _
        rw [e, ih a _ ha ia (fun c x h => by cases h; decide), Option.bind_some]
        simp only [if_true]
        rw [mustP_app [58, 32] (textV d b ++ r'), Option.bind_some, ih b r' hb ib hr]
        rfl
      · show ((textV d a ++ [58, 32] ++ textV d b) ++ r').head? ≠ _
        rw [h1]; simp; exact h3
      · show 0 < (textV d a ++ [58, 32] ++ textV d b).length
        rw [h1]; simp
    · exact pairs_ok d ih l (by rw [mayL, mayL, Bool.and_eq_true, Bool.and_eq_true] at hm; exact hm.2.2) hi.2.2 g hg

/-- A value is read from its text. -/
theorem valP_text : ∀ (d : Nat) (v : Val) (r : List UInt8), mayV d v = true → i64V v → endOk r → valP d (textV d v ++ r) = some (v, r) := by
  intro d
  induction d with
  | zero => intro v r h; cases v; simp [mayV] at h
  | succ d ih =>
    intro v r hm hi hr
    obtain ⟨k, n, s, l⟩ := v
    obtain ⟨⟨n1, n2⟩, hil⟩ := hi
    unfold mayV at hm
    unfold textV
    by_cases k1 : k = 1
    · subst k1
      rw [if_pos rfl] at hm ⊢
      obtain ⟨rfl, rfl⟩ := bare_iff hm
      obtain ⟨c, x, hc1, hc2⟩ := itoa_head n r
      have hx := numP_itoa n n1 n2 r hr
      rw [hc1] at hx ⊢
      rw [valP, if_pos hc2, hx]
      rfl
    rw [if_neg k1] at hm ⊢
    by_cases k3 : k = 3
    · subst k3
      rw [if_pos rfl, Bool.and_eq_true, decide_eq_true_eq] at hm
      rw [if_neg (by decide), if_pos rfl]
      obtain ⟨rfl, rfl⟩ := bare_iff hm.1
      rcases hm.2 with rfl | rfl
      · rw [if_neg (by decide)]
        show valP (d + 1) (102 :: ([97, 108, 115, 101] ++ r)) = _
        rw [valP, if_neg (by decide), if_neg (by decide), if_neg (by decide), if_pos rfl]
        have := mustP_app [102, 97, 108, 115, 101] r
        rw [show (102 : UInt8) :: ([97, 108, 115, 101] ++ r) = [102, 97, 108, 115, 101] ++ r from rfl, this]
        rfl
      · rw [if_pos rfl]
        show valP (d + 1) (116 :: ([114, 117, 101] ++ r)) = _
        rw [valP, if_neg (by decide), if_neg (by decide), if_pos rfl]
        have := mustP_app [116, 114, 117, 101] r
        rw [show (116 : UInt8) :: ([114, 117, 101] ++ r) = [116, 114, 117, 101] ++ r from rfl, this]
        rfl
    rw [if_neg k3] at hm
    by_cases k67 : k = 6 ∨ k = 7
    · rw [if_pos k67, Bool.and_eq_true] at hm
      obtain ⟨rfl, rfl⟩ := bare_iff hm.1
      rcases k67 with rfl | rfl
      · rw [if_neg (by decide), if_neg (by decide), if_pos rfl]
        show valP (d + 1) (118 :: (91 :: (Lib.itoa n ++ [93]) ++ r)) = _
        rw [valP, if_neg (by decide), if_neg (by decide), if_neg (by decide), if_neg (by decide), if_pos rfl, elemP_itoa 6 n n1 n2]
      · rw [if_neg (by decide), if_neg (by decide), if_neg (by decide), if_pos rfl]
        show valP (d + 1) (101 :: (91 :: (Lib.itoa n ++ [93]) ++ r)) = _
        rw [valP, if_neg (by decide), if_neg (by decide), if_neg (by decide), if_neg (by decide), if_neg (by decide), if_pos rfl, elemP_itoa 7 n n1 n2]
    rw [if_neg k67] at hm
    by_cases k2 : k = 2
    · subst k2
      rw [if_pos rfl, Bool.and_eq_true, Bool.and_eq_true, decide_eq_true_eq, List.isEmpty_iff] at hm
      obtain ⟨⟨rfl, rfl⟩, _⟩ := hm
      rw [if_pos rfl]
      unfold quoteL
      show valP (d + 1) (39 :: ((s.data.toList.flatMap qc ++ [39]) ++ r)) = _
      rw [valP, if_neg (by decide), if_pos rfl, List.append_assoc]
      have := strP_quote s.data.toList r
      rw [show [(39 : UInt8)] ++ r = 39 :: r from rfl, this]
      simp [vStr]
    rw [if_neg k2] at hm
    rw [if_neg k2, if_neg k3, if_neg (fun e => k67 (.inl e)), if_neg (fun e => k67 (.inr e))]
    by_cases k4 : k = 4
    · subst k4
      rw [if_pos rfl] at hm ⊢
      simp only [Bool.and_eq_true, decide_eq_true_eq] at hm
      obtain ⟨⟨⟨rfl, hs⟩, hl⟩, hml⟩ := hm
      obtain rfl := empty_ba hs
      rw [textL_map]
      have hgs : (l.map fun x => ([x], textV d x)).map (·.2) = l.map (textV d) := by simp
      have hfl : (l.map fun x => ([x], textV d x)).flatMap (·.1) = l := by
        rw [List.flatMap_map]; simp
      have hpos : ∀ g ∈ (l.map fun x => ([x], textV d x)), 0 < g.2.length := by
        intro g hg
        obtain ⟨x, hx, rfl⟩ := List.mem_map.1 hg
        obtain ⟨c, y, h1, _⟩ := textV_head d x (mayL_mem hml x hx)
        show 0 < (textV d x).length
        rw [h1]; simp
      have hlen := join_len _ hpos
      have := itemsP_text (valP d) 93 false (by decide) (by decide) (l.map fun x => ([x], textV d x)) ((joinB [44, 32] (l.map (textV d)) ++ [93] ++ r).length + 1) true r (by
        intro g hg
        obtain ⟨x, hx, rfl⟩ := List.mem_map.1 hg
        obtain ⟨c, y, h1, h2, h3, h4⟩ := textV_head d x (mayL_mem hml x hx)
        refine ⟨fun r' hr' => ?_, fun r' => head_ne h1 h2 r'⟩
        unfold oneP
        rw [ih x r' (mayL_mem hml x hx) (i64L_mem hil x hx) hr']
        rfl) (by rw [hgs] at hlen; simp only [List.length_append]; omega) (fun h => by cases h)
      rw [hfl, hgs] at this
      simp only [if_true] at this
      show valP (d + 1) (91 :: ((joinB [44, 32] (l.map (textV d)) ++ [93]) ++ r)) = _
      rw [valP, if_neg (by decide), if_neg (by decide), if_neg (by decide), if_neg (by decide), if_neg (by decide), if_neg (by decide), if_pos rfl]
      rw [show (joinB [44, 32] (l.map (textV d)) ++ [93]) ++ r = joinB [44, 32] (l.map (textV d)) ++ 93 :: r by simp] at this ⊢
      rw [this]
      rfl
    rw [if_neg k4] at hm ⊢
    by_cases k5 : k = 5
    · subst k5
      rw [if_pos rfl] at hm ⊢
      simp only [Bool.and_eq_true, decide_eq_true_eq] at hm
      obtain ⟨⟨⟨⟨⟨rfl, hs⟩, hl⟩, hev⟩, hml⟩, hri⟩ := hm
      obtain rfl := empty_ba hs
      rw [textL_map]
      obtain ⟨hgs, hfl⟩ := pairsG_text d l hev
      have hok := pairs_ok d ih l hml hil
      have hlen := join_len (pairsG d l) (fun g hg => (hok g hg).2.2)
      have := itemsP_text (valP d) 125 true (by decide) (by decide) (pairsG d l) ((joinB [44, 32] (pairsB (l.map (textV d))) ++ [125] ++ r).length + 1) true r
        (fun g hg => ⟨(hok g hg).1, (hok g hg).2.1⟩) (by rw [hgs] at hlen; simp only [List.length_append]; omega) (fun h => by cases h)
      rw [hfl, hgs] at this
      simp only [if_true] at this
      show valP (d + 1) (123 :: ((joinB [44, 32] (pairsB (l.map (textV d))) ++ [125]) ++ r)) = _
      rw [valP, if_neg (by decide), if_neg (by decide), if_neg (by decide), if_neg (by decide), if_neg (by decide), if_neg (by decide), if_neg (by decide), if_pos rfl]
      rw [show (joinB [44, 32] (pairsB (l.map (textV d))) ++ [125]) ++ r = joinB [44, 32] (pairsB (l.map (textV d))) ++ 125 :: r by simp] at this ⊢
      rw [this]
      rfl
    rw [if_neg k5] at hm
    cases hm
theorem parseV_text (v : Val) (h : okV v = true) (hi : i64V v) : parseV (textV 8 v) = some v := by
  have := valP_text 8 v [] h hi (fun c x h => by cases h)
  rw [List.append_nil] at this
  unfold parseV
  rw [this]
  simp [h]
end Go.Proofs.YtijgmloodkbljaaGreatDoor
