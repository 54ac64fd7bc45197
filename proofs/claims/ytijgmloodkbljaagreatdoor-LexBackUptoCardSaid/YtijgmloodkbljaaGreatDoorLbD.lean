import Derived.Test.YtijgmloodkbljaaGreatDoorLbC
import Derived.Deep.AppendLies
import Derived.Deep.RegionHeld3
import Derived.Deep.RegionLaw
import Derived.WalkSmall
import Derived.Handy
import Derived.Lib.LaidTab
import Derived.Laws.OwnMore
import Derived.Maps.AppendAt
namespace Go.Proofs.YtijgmloodkbljaaGreatDoor
open Go Go.RowKit

/-- The slice v is a row of the call's own (from block B on) that holds the bytes l. -/
def OwnB (B : Nat) (v : Value) (l : List UInt8) (W : World) : Prop := W.ownsRow B 5 1 v l.length (Lib.byteCells l)

theorem OwnB.lit (w : World) (x : UInt8) : OwnB w.heap.size (.slice (some ⟨w.heap.size, 0, none⟩) 1 1) [x] (w.alloc (.cells #[.int .u8 x.toNat] 5)) :=
  ⟨rfl, .inr ⟨w.heap.size, 1, #[.int .u8 x.toNat], rfl, Nat.le_refl _, heap_alloc_new w _, Nat.le_refl _, by unfold maxLen; omega, rfl, rfl⟩⟩

theorem byteCells_one' (l : List UInt8) : ∀ u ∈ Lib.byteCells l, u.oneCell' = true := by
  intro u hu
  simp only [Lib.byteCells, List.mem_map] at hu
  obtain ⟨b, _, rfl⟩ := hu
  rfl

/-- v = append(v, bytes...), the bytes laid into a block of their own. -/
theorem run_appB {W0 W : World} {B : Nat} (ty : TypeId) {v : Value} {L : List UInt8} (hown : OwnB B v L W) (hB : Below B W0 W) (news : List UInt8) (hlen : L.length + news.length ≤ 100000000000) (hBW : B ≤ W.heap.size) :
    ∃ v' w', (Builtin.append_ #[65, 65] ty #[v, .slice (some ⟨W.heap.size, 0, none⟩) news.length news.length]).run Tryz.prog (W.alloc (.cells (Lib.byteCells news).toArray 5)) = .ok v' w' ∧ OwnB B v' (L ++ news) w' ∧ Below B W0 w' := by
  obtain ⟨i0, hi, hz0, hz1, hz2⟩ := info_parts infoByte
  obtain ⟨v', w', hr, hown', hg, _⟩ := run_append_own (P := Tryz.prog) (W.alloc (.cells (Lib.byteCells news).toArray 5)) B 65 ty 5 i0 (.int .u8 0) 1 1 Tryz.underlying65 hi hz0 hz1 hz2 rfl (by decide) v L.length (Lib.byteCells L) (World.ownsRow.alloc hown _) ⟨W.heap.size, 0, none⟩ news.length news.length (Lib.byteCells news)
    (by rw [Lib.byteCells_length, Nat.mul_one]) (by
      intro j u hu
      have : (⟨W.heap.size, 0, none⟩ : Addr).add j = ⟨W.heap.size, j, none⟩ := by unfold Addr.add; split <;> simp_all
      rw [this, Lib.cell_of_heap (heap_alloc_new W _) j]
      simpa using hu) (byteCells_one' news) (by unfold maxLen; omega) (by omega) (by simp; omega)
  refine ⟨v', w', hr, by unfold OwnB; rw [Lib.byteCells_append, List.length_append]; exact hown', (hB.alloc hBW _).grown hg (by simp; omega) ?_⟩
  intro k hk
  rcases hown.2 with ⟨rfl, _⟩ | ⟨g, cap, cur, rfl, hgB, _⟩
  · simp [Value.ownBlock] at hk
  · simp [Value.ownBlock] at hk; omega

theorem wp_appB0 {o : Oper} {a : Act} {K : Act → World → Prop} {Q : Exit → Act → World → Prop} {W0 W : World} {B : Nat} (s x : Operand)
    (ho : o.op = .call { callee := .builtin .append, args := #[s, x], argTypes := #[65, 65] })
    {v : Value} {L : List UInt8} (hs : a.eval s = v) (hown : OwnB B v L W) (hB : Below B W0 W) (news : List UInt8) (cs : Array Value) (hx : a.eval x = .slice (some ⟨W.heap.size, 0, none⟩) news.length news.length)
    (hcs : cs = (Lib.byteCells news).toArray) (hlen : L.length + news.length ≤ 100000000000) (hBW : B ≤ W.heap.size)
    (h : ∀ v' w', OwnB B v' (L ++ news) w' → Below B W0 w' → K (a.put o.dst v') w') : o.wp Tryz.prog a (W.alloc (.cells cs 5)) K Q := by
  subst hcs
  obtain ⟨v', w', hr, h2, h3⟩ := run_appB o.type hown hB news hlen hBW
  unfold Oper.wp execOp
  simp only [ho, resolve, invoke, builtin, Sem.run_bind, Sem.run_pure, Result.andThen_ok, List.map_toArray, List.map_cons, List.map_nil, hs, hx, hr]
  exact h v' w' h2 h3
theorem wp_appB {ops : Array Oper} {rest : List Oper} {o : Oper} {a : Act} {Q : Exit → Act → World → Prop} {W0 W : World} {B : Nat} (hgd : o.guard = none) (s x : Operand)
    (ho : o.op = .call { callee := .builtin .append, args := #[s, x], argTypes := #[65, 65] })
    {v : Value} {L : List UInt8} (hs : a.eval s = v) (hown : OwnB B v L W) (hB : Below B W0 W) (news : List UInt8) (cs : Array Value) (hx : a.eval x = .slice (some ⟨W.heap.size, 0, none⟩) news.length news.length)
    (hcs : cs = (Lib.byteCells news).toArray) (hlen : L.length + news.length ≤ 100000000000) (hBW : B ≤ W.heap.size)
    (h : ∀ v' w', OwnB B v' (L ++ news) w' → Below B W0 w' → wpList Tryz.prog ops Q rest (a.put o.dst v') w') : wpList Tryz.prog ops Q (o :: rest) a (W.alloc (.cells cs 5)) :=
  wpList_plain hgd fun _ hK => wp_appB0 s x ho hs hown hB news cs hx hcs hlen hBW fun v' w' h2 h3 => hK _ _ (h v' w' h2 h3)
theorem step_appB {ops : Array Oper} {o : Oper} {a : Act} {K : Act → World → Prop} {Q : Exit → Act → World → Prop} {E : Prop} {W0 W : World} {B : Nat} (hgd : o.guard = none) (s x : Operand)
    (ho : o.op = .call { callee := .builtin .append, args := #[s, x], argTypes := #[65, 65] })
    {v : Value} {L : List UInt8} (hs : a.eval s = v) (hown : OwnB B v L W) (hB : Below B W0 W) (news : List UInt8) (cs : Array Value) (hx : a.eval x = .slice (some ⟨W.heap.size, 0, none⟩) news.length news.length)
    (hcs : cs = (Lib.byteCells news).toArray) (hlen : L.length + news.length ≤ 100000000000) (hBW : B ≤ W.heap.size)
    (h : ∀ v' w', OwnB B v' (L ++ news) w' → Below B W0 w' → K (a.put o.dst v') w') :
    if Region.wanted o (yielded ops a.tmps) = true then Oper.wp Tryz.prog o a (W.alloc (.cells cs 5)) K Q else E := by
  have hw : Region.wanted o (yielded ops a.tmps) = true := by simp [Region.wanted, hgd]
  rw [if_pos hw]
  exact wp_appB0 s x ho hs hown hB news cs hx hcs hlen hBW h

theorem dig16 (n : Nat) (hn : n < 16) (h : n < ({ data := #[48, 49, 50, 51, 52, 53, 54, 55, 56, 57, 97, 98, 99, 100, 101, 102] } : ByteArray).size) : ({ data := #[48, 49, 50, 51, 52, 53, 54, 55, 56, 57, 97, 98, 99, 100, 101, 102] } : ByteArray)[n]'h = hexD n := by
  obtain rfl | rfl | rfl | rfl | rfl | rfl | rfl | rfl | rfl | rfl | rfl | rfl | rfl | rfl | rfl | rfl : n = 0 ∨ n = 1 ∨ n = 2 ∨ n = 3 ∨ n = 4 ∨ n = 5 ∨ n = 6 ∨ n = 7 ∨ n = 8 ∨ n = 9 ∨ n = 10 ∨ n = 11 ∨ n = 12 ∨ n = 13 ∨ n = 14 ∨ n = 15 := by omega
  all_goals rfl
theorem wrap_u8 (n : Nat) (h : n < 256) : IntKind.u8.wrap (n : Int) = n := by
  have : (n : Int) % 256 = n := by omega
  show (n : Int) % 256 = n
  exact this
theorem strOfNums_bytes (L : List UInt8) : strOfNums (L.map fun b => (b.toNat : Int)) = ⟨L.toArray⟩ := by
  have e : ((fun n : Int => UInt8.ofNat n.toNat) ∘ fun b : UInt8 => (b.toNat : Int)) = id := by funext b; simp
  have : (L.map fun b => (b.toNat : Int)).map (fun n : Int => UInt8.ofNat n.toNat) = L := by
    rw [List.map_map, e, List.map_id]
  unfold strOfNums
  rw [this]

/-- string(v). -/
theorem run_ownB {B : Nat} {v : Value} {L : List UInt8} {W : World} (h : OwnB B v L W) : (convert 65 9 v).run Tryz.prog W = .ok (.string ⟨L.toArray⟩) W := by
  unfold OwnB at h
  rcases h.2 with ⟨rfl, h0⟩ | ⟨g, cap, cur, rfl, _⟩
  · obtain rfl : L = [] := List.eq_nil_of_length_eq_zero h0
    have e := run_convert_bytes_nil (P := Tryz.prog) W 65 5 Tryz.underlying65 Tryz.underlying5 0 0 9 Tryz.underlying9
    exact e
  · have e := run_convert_bytes_arg (P := Tryz.prog) W 65 5 Tryz.underlying65 Tryz.underlying5 g 0 L.length cap (L.map fun b => (b.toNat : Int)) (by simp) (fun i hi => by
      have hc := h.cells (g := g) rfl i (.int .u8 ((L.map fun b => (b.toNat : Int)).getD i 0)) (by
        simp [Lib.byteCells, List.getElem?_eq_getElem hi, List.getD_eq_getElem?_getD])
      have ha : (⟨g, 0, none⟩ : Addr).add i = ⟨g, 0 + i, none⟩ := by unfold Addr.add; split <;> simp_all
      rwa [ha] at hc) 9 Tryz.underlying9
    have h3 : strOfNums (L.map fun b => (b.toNat : Int)) = ⟨L.toArray⟩ := strOfNums_bytes L
    rw [h3] at e
    exact e

set_option maxHeartbeats 4000000 in
set_option maxRecDepth 100000 in
theorem f207_Quote (s : ByteArray) (w : World) (hs : s.size ≤ 1048576) :
    Calls Tryz.prog 207 #[.string s] w (Ret (.string ⟨(quoteL s.data.toList).toArray⟩) w) := by
  generalize hR : quoteL s.data.toList = R
  have HR := Lib.hid hR
  clear hR
  go_enter Tryz.func207, Tryz.ntmps207
  go_wp2
  have hO := OwnB.lit w 39
  have hB0 : Below w.heap.size w (w.alloc (.cells #[.int .u8 39] 5)) := (Below.refl _ _).alloc (Nat.le_refl _) _
  have hb : w.heap.size ≤ w.heap.size := Nat.le_refl _
  generalize hBB : w.heap.size = B at *
  have HB := Lib.hid hBB
  clear hBB hb
  go_loopw [3, 4, 5] (fun v i u wr => ∃ k : Nat, k ≤ s.size ∧ i = .int .i64 k ∧ OwnB B v (39 :: (s.data.toList.take k).flatMap qc) wr ∧ Below B w wr) (fun v i u _ => s.size - (intOf i).toNat)
  case atStart => exact ⟨0, by omega, rfl, hO, hB0⟩
  case round =>
    clear hO hB0
    obtain ⟨k, hk, rfl, hO, hB⟩ := hrel
    have hBW : B ≤ wr.heap.size := by rw [← HB.out]; exact hB.size
    have hfl := flat_length (s.data.toList.take k)
    have htl : (s.data.toList.take k).length ≤ 1048576 := by rw [List.length_take, data_len]; omega
    have hll : (39 :: (s.data.toList.take k).flatMap qc).length ≤ 5000000 := by rw [List.length_cons]; omega
    clear hfl htl
    by_cases hlt : k < s.size
    · have hsn := Lib.hid (flat_snoc s k hlt)
      generalize hL : 39 :: (s.data.toList.take k).flatMap qc = L at *
      have HL := Lib.hid hL
      clear hL
      by_cases h39 : s[k] = 39 ∨ s[k] = 92
      · have hqc : Hid (qc s[k] = [92, s[k]]) := by
          unfold Hid qc
          rw [if_neg (by rcases h39 with h | h <;> rw [h] <;> decide), if_pos h39]
        have hor : ((s[k].toNat : Int) == 39) = true ∨ (((s[k].toNat : Int) == 39) = false ∧ ((s[k].toNat : Int) == 92) = true) := by
          rcases h39 with h | h
          · exact .inl (by rw [h]; rfl)
          · exact .inr ⟨by rw [h]; rfl, by rw [h]; rfl⟩
        clear h39
        rcases hor with e1 | ⟨e1, e2⟩
        all_goals
          go_wp2_with (at_builtin; refine wp_appB rfl _ _ rfl rfl hO hB [92, s[k]] _ rfl rfl (by simp; omega) hBW ?_; intro v1 w1 hO1 hB1)
          go_roundw
          case rel =>
            refine ⟨k + 1, by omega, by go_num, ?_, hB1⟩
            rw [hsn.out, hqc.out, ← List.cons_append, HL.out]
            exact hO1
          case measure => simp [intOf]; omega
      · have e1 : ((s[k].toNat : Int) == 39) = false := by
          simp only [beq_eq_false_iff_ne, ne_eq]; intro h; exact h39 (.inl (UInt8.toNat_inj.1 (by simp; omega)))
        have e2 : ((s[k].toNat : Int) == 92) = false := by
          simp only [beq_eq_false_iff_ne, ne_eq]; intro h; exact h39 (.inr (UInt8.toNat_inj.1 (by simp; omega)))
        by_cases hq : s[k].toNat < 32 ∨ 126 < s[k].toNat
        · have hqc : Hid (qc s[k] = [92, 120, hexD (s[k].toNat / 16), hexD (s[k].toNat % 16)]) := by unfold Hid qc; rw [if_pos hq]
          clear h39
          have hbb := byte_bounds s[k]
          obtain ⟨hb0, hb1⟩ := hbb
          have hor : (s[k].toNat : Int) < 32 ∨ (32 ≤ (s[k].toNat : Int) ∧ 126 < (s[k].toNat : Int)) := by omega
          clear hq
          have hq1 : IntKind.u8.wrap ((s[k].toNat : Int) / 16) = (s[k].toNat / 16 : Nat) := by
            have : ((s[k].toNat : Int) / 16) = ((s[k].toNat / 16 : Nat) : Int) := by omega
            rw [this]; exact wrap_u8 _ (by omega)
          have hq2 : (s[k].toNat : Int).tmod 16 = (s[k].toNat % 16 : Nat) := by
            rw [Int.tmod_eq_emod_of_nonneg (by omega)]; omega
          have d1 : s[k].toNat / 16 < 16 := by omega
          have m1 : s[k].toNat % 16 < 16 := by omega
          generalize hdd : s[k].toNat / 16 = d at *
          generalize hmm : s[k].toNat % 16 = m at *
          clear hdd hmm
          have d2 : (d:Int) < 16 := by omega
          have m2 : (m:Int) < 16 := by omega
          rcases hor with e3 | ⟨e3, e4⟩
          all_goals
            go_wp2
            have hO2 : OwnB B u3 L wr.drew := hO
            have hB2 : Below B w wr.drew := hB.drew
            go_region_law ((refine step_appB rfl _ _ rfl rfl hO2 hB2 [92, 120, hexD d, hexD m] _ rfl (by simp [Lib.byteCells, dig16, d1, m1]) (by simp; omega) hBW ?_; intro v1 w1 hO1 hB1))
            all_goals
              simp only [List.getElem_toArray, List.getElem_cons_succ, List.getElem_cons_zero]
              go_simp
              rename_i hcont
              refine hcont _ _ ?_
              clear hcont
              go_wp2
              go_roundw
              case rel =>
                refine ⟨k + 1, by omega, by go_num, ?_, hB1⟩
                rw [hsn.out, hqc.out, ← List.cons_append, HL.out]
                exact hO1
              case measure => simp [intOf]; omega
        · have hqc : Hid (qc s[k] = [s[k]]) := by unfold Hid qc; rw [if_neg hq, if_neg h39]
          have e3 : 32 ≤ (s[k].toNat : Int) := by omega
          have e4 : (s[k].toNat : Int) ≤ 126 := by omega
          clear hq h39
          go_wp2_with (at_builtin; refine wp_appB rfl _ _ rfl rfl hO hB [s[k]] _ rfl rfl (by simp; omega) hBW ?_; intro v1 w1 hO1 hB1)
          go_roundw
          case rel =>
            refine ⟨k + 1, by omega, by go_num, ?_, hB1⟩
            rw [hsn.out, hqc.out, ← List.cons_append, HL.out]
            exact hO1
          case measure => simp [intOf]; omega
    · have hL : Hid ((39 :: (s.data.toList.take k).flatMap qc) ++ [39] = R) := by
        unfold Hid
        rw [← HR.out, List.take_of_length_le (by simp; omega)]
        rfl
      go_wp2_with (at_builtin; refine wp_appB rfl _ _ rfl rfl hO hB [39] _ rfl rfl (by simp at hll ⊢; omega) hBW ?_; intro v1 w1 hO1 hB1; rw [hL.out] at hO1; have hcv := run_ownB hO1)
      go_ret
      refine ⟨rfl, by rw [HB.out]; exact hB1⟩
end Go.Proofs.YtijgmloodkbljaaGreatDoor

namespace Go.Proofs.YtijgmloodkbljaaGreatDoor
open Go Go.RowKit

/-- What the row lists of the standard library's variables, as far as the walks read it. -/
structure Laid (w : World) : Prop where
  bits : w.cell? ⟨7, 15, none⟩ = some (.int .u8 4)
  tab : Lib.TabIs Tryz.prog w "internal/strconv.uint64pow10" .u64 Lib.pow10Tab
  size : 8 ≤ w.heap.size

theorem gTab : Tryz.prog.globalNamed "internal/strconv.uint64pow10" = some 3 := by kernel_rfl
theorem Laid.below {w w' : World} {B : Nat} (h : Laid w) (hb : Below B w w') (hB : 8 ≤ B) : Laid w' := by
  refine ⟨(hb.cell (p := ⟨7, 15, none⟩) (show 7 < B by omega)).trans h.bits, var?_below hb gTab (by omega) h.tab, ?_⟩
  have := hb.size
  have := h.size
  omega
theorem Laid.alloc {w : World} (h : Laid w) (o : Obj) : Laid (w.alloc o) := h.below ((Below.refl w.heap.size w).alloc (Nat.le_refl _) o) h.size
theorem Laid.ret {w w' : World} (h : Laid w) (hb : Below w.heap.size w w') : Laid w' := h.below hb h.size

def I64n (n : Int) : Prop := -9223372036854775808 ≤ n ∧ n ≤ 9223372036854775807
def decS (n : Int) : ByteArray := ⟨(Lib.itoa n).toArray⟩
def quoteS (s : ByteArray) : ByteArray := ⟨(quoteL s.data.toList).toArray⟩

theorem grow_below (w : World) (k : Nat) (os : Array Obj) : Below w.heap.size w (Go.Sort.grow (w.drewN k) os) :=
  ⟨rfl, rfl, rfl, by show w.heap.size ≤ (w.heap ++ os).size; simp, fun i hi => by
    show (w.heap ++ os)[i]? = w.heap[i]?
    rw [Array.getElem?_append_left hi]⟩
theorem box4 {w w1 : World} {a b c d : Value} {t : TypeId} (h : Below (w.alloc (.cells #[a, b, c, d] t)).heap.size (w.alloc (.cells #[a, b, c, d] t)) w1) :
    w1.cell? ⟨w.heap.size, 0, none⟩ = some a ∧ w1.cell? ⟨w.heap.size, 1, none⟩ = some b ∧ w1.cell? ⟨w.heap.size, 2, none⟩ = some c ∧ w1.cell? ⟨w.heap.size, 3, none⟩ = some d := by
  have e : ∀ i, w1.cell? ⟨w.heap.size, i, none⟩ = (w.alloc (.cells #[a, b, c, d] t)).cell? ⟨w.heap.size, i, none⟩ := fun i => h.cell (p := ⟨w.heap.size, i, none⟩) (by simp)
  simp only [e]
  simp
theorem f189_10 (n : Int) (hn : I64n n) (w : World) (hL : Laid w) : Calls Tryz.prog 189 #[.int .i64 n, .int .i64 10] w (Ret (.string (decS n)) w) :=
  (Tryz.strconv_FormatInt_10 n hn.1 hn.2 w hL.tab).mono fun e w' ⟨he, k, os, hw⟩ => ⟨he, by subst hw; exact grow_below _ _ _⟩
theorem f108_Text (n : Int) (hn : I64n n) (w : World) (hL : Laid w) : Calls Tryz.prog 108 #[.int .i64 n] w (Ret (.string (decS n)) w) := by
  go_enter Tryz.func108, Tryz.ntmps108
  go_wp2_with fail
  refine (f189_10 n hn w hL).mono ?_
  rintro e w1 ⟨rfl, h⟩
  go_wp2
  go_ret
  exact ⟨rfl, h⟩
theorem f75_Int (n : Int) (w : World) : Calls Tryz.prog 75 #[.int .i64 n] w (Ret (.agg #[.int .i64 1, .int .i64 n, .string ⟨#[]⟩, .slice none 0 0]) w) := by
  go_enter Tryz.func75, Tryz.ntmps75
  go_wp2
  go_returns
  exact ⟨rfl, by go_grown⟩
theorem f76_Str (s : ByteArray) (w : World) : Calls Tryz.prog 76 #[.string s] w (Ret (.agg #[.int .i64 2, .int .i64 0, .string s, .slice none 0 0]) w) := by
  go_enter Tryz.func76, Tryz.ntmps76
  go_wp2
  go_returns
  exact ⟨rfl, by go_grown⟩
theorem f158_int (n : Int) (hn : I64n n) (w : World) (hL : Laid w) : Calls Tryz.prog 158 #[.agg #[.int .i64 1, .int .i64 n, .string ⟨#[]⟩, .slice none 0 0], .int .i64 1] w (Ret (.string (decS n)) w) := by
  go_enter Tryz.func158, Tryz.ntmps158
  go_wp2_with (go_at_call 108; refine (f108_Text n hn _ (hL.alloc _)).mono ?_; rintro e w1 ⟨rfl, h⟩)
  go_wp2
  go_ret
  exact ⟨rfl, below_box h⟩
theorem f158_str (s : ByteArray) (hs : s.size ≤ 1048576) (w : World) (hL : Laid w) : Calls Tryz.prog 158 #[.agg #[.int .i64 2, .int .i64 0, .string s, .slice none 0 0], .int .i64 1] w (Ret (.string (quoteS s)) w) := by
  go_enter Tryz.func158, Tryz.ntmps158
  go_wp2_with (go_at_call 225; refine (f225_quote s _ hs (hL.alloc _).bits).mono ?_; rintro e w1 ⟨rfl, h⟩)
  go_wp2
  go_ret
  exact ⟨rfl, below_box h⟩
theorem f74_int (n : Int) (hn : I64n n) (w : World) (hL : Laid w) : Calls Tryz.prog 74 #[.agg #[.int .i64 1, .int .i64 n, .string ⟨#[]⟩, .slice none 0 0]] w (Ret (.string (decS n)) w) := by
  go_enter Tryz.func74, Tryz.ntmps74
  go_wp2_with (go_at_call 158; refine (f158_int n hn _ (hL.alloc _)).mono ?_; rintro e w1 ⟨rfl, h⟩)
  go_wp2
  go_ret
  exact ⟨rfl, below_box h⟩
theorem f74_str (s : ByteArray) (hs : s.size ≤ 1048576) (w : World) (hL : Laid w) : Calls Tryz.prog 74 #[.agg #[.int .i64 2, .int .i64 0, .string s, .slice none 0 0]] w (Ret (.string (quoteS s)) w) := by
  go_enter Tryz.func74, Tryz.ntmps74
  go_wp2_with (go_at_call 158; refine (f158_str s hs _ (hL.alloc _)).mono ?_; rintro e w1 ⟨rfl, h⟩)
  go_wp2
  go_ret
  exact ⟨rfl, below_box h⟩

def Tok.txt (t : Tok) : ByteArray := if t.ok = true then (if t.kind = 2 then decS t.n else if t.kind = 3 then quoteS t.text else t.text) else ⟨#[]⟩
set_option maxHeartbeats 1000000 in
theorem f17_Text (k : Int) (s : ByteArray) (n p : Int) (w : World) (hs : s.size ≤ 1048576) (hn : I64n n) (hL : Laid w) :
    Calls Tryz.prog 17 #[.agg #[.int .i64 k, .string s, .int .i64 n, .int .i64 p]] w (Ret (.string (Tok.txt ⟨k, s, n, p⟩)) w) := by
  generalize hR : Tok.txt ⟨k, s, n, p⟩ = R
  have HR := Lib.hid hR
  clear hR
  cases ho : Tok.ok ⟨k, s, n, p⟩
  · have hR : R = ⟨#[]⟩ := by rw [← HR.out]; simp [Tok.txt, ho]
    subst hR
    clear HR
    go_enter Tryz.func17, Tryz.ntmps17
    go_wp2_with (go_at_call 15; refine (f15_Check k s n p _ hs).mono ?_; rw [ho]; rintro e w1 ⟨rfl, h⟩)
    go_wp2
    go_ret
    exact ⟨rfl, below_box h⟩
  · have ho' : Hid (Tok.ok ⟨k, s, n, p⟩ = true) := ho
    clear ho
    by_cases hk' : k = 2
    · have hR : R = decS n := by rw [← HR.out]; unfold Tok.txt; rw [if_pos ho'.out, if_pos hk']
      clear HR
      subst hk' hR
      go_enter Tryz.func17, Tryz.ntmps17
      go_wp2_with (go_at_call 15; refine (f15_Check _ _ n p _ hs).mono ?_; rw [ho'.out, show checkE true = 0 from rfl]; rintro e w1 ⟨rfl, h⟩; obtain ⟨c0, c1, c2, c3⟩ := box4 h; have hL1 := (hL.alloc _).ret h; have hb1 := below_box h; clear h)
      refine (f75_Int n w1).mono ?_
      rintro e w2 ⟨rfl, h2⟩
      go_wp2_with fail
      refine (f74_int n hn w2 (hL1.ret h2)).mono ?_
      rintro e w3 ⟨rfl, h3⟩
      go_wp2
      go_ret
      exact ⟨rfl, (hb1.trans (h2.mono hb1.size)).trans (h3.mono (Nat.le_trans hb1.size h2.size))⟩
    · by_cases hk : k = 3
      · have hR : R = quoteS s := by rw [← HR.out]; unfold Tok.txt; rw [if_pos ho'.out, if_neg hk', if_pos hk]
        clear HR hk'
        subst hk hR
        go_enter Tryz.func17, Tryz.ntmps17
        go_wp2_with (go_at_call 15; refine (f15_Check _ _ n p _ hs).mono ?_; rw [ho'.out, show checkE true = 0 from rfl]; rintro e w1 ⟨rfl, h⟩; obtain ⟨c0, c1, c2, c3⟩ := box4 h; have hL1 := (hL.alloc _).ret h; have hb1 := below_box h; clear h)
        refine (f76_Str s w1).mono ?_
        rintro e w2 ⟨rfl, h2⟩
        go_wp2_with fail
        refine (f74_str s hs w2 (hL1.ret h2)).mono ?_
        rintro e w3 ⟨rfl, h3⟩
        go_wp2
        go_ret
        exact ⟨rfl, (hb1.trans (h2.mono hb1.size)).trans (h3.mono (Nat.le_trans hb1.size h2.size))⟩
      · have hR : R = s := by rw [← HR.out]; simp [Tok.txt, ho'.out, hk', hk]
        have e2 : (k == 2) = false := by simpa using hk'
        have e3 : (k == 3) = false := by simpa using hk
        clear HR hk' hk
        subst hR
        go_enter Tryz.func17, Tryz.ntmps17
        go_wp2_with (go_at_call 15; refine (f15_Check _ _ n p _ hs).mono ?_; rw [ho'.out, show checkE true = 0 from rfl]; rintro e w1 ⟨rfl, h⟩; obtain ⟨c0, c1, c2, c3⟩ := box4 h; have hL1 := (hL.alloc _).ret h; have hb1 := below_box h; clear h)
        go_wp2
        go_ret
        exact ⟨rfl, hb1⟩
end Go.Proofs.YtijgmloodkbljaaGreatDoor

namespace Go.Proofs.YtijgmloodkbljaaGreatDoor
open Go Go.RowKit

def decN (u : Nat) : List Nat := if _h : u < 10 then [u] else decN (u / 10) ++ [u % 10]
termination_by u
decreasing_by omega
def ch (k : Nat) : UInt8 := UInt8.ofNat (48 + k)
theorem decDigits_decN (u : Nat) : Lib.decDigits u = (decN u).map ch := by
  induction u using Nat.strongRecOn with
  | _ u ih =>
    by_cases h : u < 10
    · rw [Lib.decDigits, dif_pos h, decN, dif_pos h]; rfl
    · rw [Lib.decDigits, dif_neg h, decN, dif_neg h, ih (u / 10) (by omega), List.map_append]; rfl
def headN (u : Nat) : List Nat := if u = 0 then [] else decN u
theorem decN_step (u : Nat) : decN u = headN (u / 10) ++ [u % 10] := by
  rw [decN]
  by_cases h : u < 10
  · rw [dif_pos h]
    have : u / 10 = 0 := by omega
    rw [this]; simp [headN]; omega
  · rw [dif_neg h, headN, if_neg (by omega)]
theorem headN_cons (x : List Nat) (m : Nat) (D : List Nat) (h : x = headN (m / 10) ++ (m % 10 :: D)) : x = headN (m / 10) ++ (m % 10 :: D) := h
theorem decN_lt (u : Nat) : ∀ k ∈ decN u, k < 10 := by
  induction u using Nat.strongRecOn with
  | _ u ih =>
    intro k hk
    rw [decN] at hk
    by_cases h : u < 10
    · rw [dif_pos h] at hk; simp at hk; omega
    · rw [dif_neg h] at hk
      simp only [List.mem_append, List.mem_singleton] at hk
      rcases hk with hk | hk
      · exact ih (u / 10) (by omega) k hk
      · omega
theorem decN_len (u n : Nat) (h : u < 10 ^ n) (hn : 0 < n) : (decN u).length ≤ n := by
  induction n generalizing u with
  | zero => omega
  | succ n ih =>
    rw [decN]
    by_cases h10 : u < 10
    · rw [dif_pos h10]; simp
    · rw [dif_neg h10]
      simp only [List.length_append, List.length_singleton]
      have : u / 10 < 10 ^ n := by rw [Nat.pow_succ] at h; omega
      have hn0 : 0 < n := by
        rcases Nat.eq_zero_or_pos n with rfl | h1
        · simp at h; omega
        · exact h1
      have := ih (u / 10) this hn0
      omega

/-- The slice v is a row of the call's own (from block B on) that holds the cells xs (whole numbers). -/
def OwnI (B : Nat) (v : Value) (xs : List Value) (W : World) : Prop := W.ownsRow B 3 1 v xs.length xs

theorem infoInt : (Tryz.prog.info? 3).map (fun i => (i.zero, i.size, i.bytes)) = some (some (.int .i64 0), 1, 8) := by kernel_rfl

theorem OwnI.lit (w : World) (x : Value) : OwnI w.heap.size (.slice (some ⟨w.heap.size, 0, none⟩) 1 1) [x] (w.alloc (.cells #[x] 3)) :=
  ⟨rfl, .inr ⟨w.heap.size, 1, #[x], rfl, Nat.le_refl _, heap_alloc_new w _, Nat.le_refl _, by unfold maxLen; omega, rfl, rfl⟩⟩

theorem run_pre {W0 W : World} {B : Nat} (ty : TypeId) {v : Value} {xs : List Value} (y : Value) (hy : y.oneCell' = true) (hxs : ∀ u ∈ xs, u.oneCell' = true) (hown : OwnI B v xs W) (hB : Below B W0 W) (hlen : xs.length ≤ 1000000) (hBW : B ≤ W.heap.size) :
    ∃ v' w', (Builtin.append_ #[220, 220] ty #[.slice (some ⟨W.heap.size, 0, none⟩) 1 1, v]).run Tryz.prog (W.alloc (.cells #[y] 3)) = .ok v' w' ∧ OwnI B v' (y :: xs) w' ∧ Below B W0 w' := by
  obtain ⟨i0, hi, hz0, hz1, hz2⟩ := info_parts infoInt
  have hl' : (W.alloc (.cells #[y] 3)).ownsRow B 3 1 (.slice (some ⟨W.heap.size, 0, none⟩) 1 1) 1 [y] := ⟨rfl, .inr ⟨W.heap.size, 1, #[y], rfl, hBW, heap_alloc_new W _, Nat.le_refl _, by unfold maxLen; omega, rfl, rfl⟩⟩
  have hb2 : Below B W0 (W.alloc (.cells #[y] 3)) := hB.alloc hBW _
  rcases hown.2 with ⟨rfl, h0⟩ | ⟨g, cap, cur, rfl, hgB, hg, hnc, _⟩
  · obtain rfl : xs = [] := List.eq_nil_of_length_eq_zero h0
    refine ⟨_, _, run_append_owned_none (P := Tryz.prog) _ B 220 ty 3 i0 1 Tryz.underlying220 hi _ 1 [y] hl', hl', hb2⟩
  · obtain ⟨v', w', hr, hown', hg', _⟩ := run_append_own (P := Tryz.prog) (W.alloc (.cells #[y] 3)) B 220 ty 3 i0 (.int .i64 0) 1 8 Tryz.underlying220 hi hz0 hz1 hz2 rfl (by decide) _ 1 [y] hl' ⟨g, 0, none⟩ xs.length cap xs
      (by simp) (by
        intro j u hu
        have : (⟨g, 0, none⟩ : Addr).add j = ⟨g, 0 + j, none⟩ := by unfold Addr.add; split <;> simp_all
        have hc := (World.ownsRow.alloc hown (.cells #[y] 3)).cells (g := g) rfl j u hu
        exact hc) hxs (by unfold maxLen; omega) (by omega) (by simp; omega)
    refine ⟨v', w', hr, by unfold OwnI; rw [List.length_cons, Nat.add_comm]; exact hown', hb2.grown hg' (by simp; omega) ?_⟩
    intro k hk
    simp [Value.ownBlock] at hk
    omega

theorem wp_pre {ops : Array Oper} {rest : List Oper} {o : Oper} {a : Act} {Q : Exit → Act → World → Prop} {W0 W : World} {B : Nat} (hgd : o.guard = none) (s x : Operand)
    (ho : o.op = .call { callee := .builtin .append, args := #[s, x], argTypes := #[220, 220] })
    {v : Value} {xs : List Value} (y : Value) (hs : a.eval s = .slice (some ⟨W.heap.size, 0, none⟩) 1 1) (hx : a.eval x = v) (hy : y.oneCell' = true) (hxs : ∀ u ∈ xs, u.oneCell' = true) (hown : OwnI B v xs W) (hB : Below B W0 W) (hlen : xs.length ≤ 1000000) (hBW : B ≤ W.heap.size)
    (h : ∀ v' w', OwnI B v' (y :: xs) w' → Below B W0 w' → wpList Tryz.prog ops Q rest (a.put o.dst v') w') : wpList Tryz.prog ops Q (o :: rest) a (W.alloc (.cells #[y] 3)) := by
  refine wpList_plain hgd fun K hK => ?_
  obtain ⟨v', w', hr, h2, h3⟩ := run_pre o.type y hy hxs hown hB hlen hBW
  unfold Oper.wp execOp
  simp only [ho, resolve, invoke, builtin, Sem.run_bind, Sem.run_pure, Result.andThen_ok, List.map_toArray, List.map_cons, List.map_nil, hs, hx, hr]
  exact hK _ _ (h v' w' h2 h3)

theorem f254_bare (n : Int) (hn : I64n n) (w : World) : Calls Tryz.prog 254 #[.int .i64 n] w (Same (.int .u64 n.natAbs) w) := by
  obtain ⟨h1, h2⟩ := hn
  by_cases h : n < 0
  · have e1 : IntKind.u64.wrap (0 - IntKind.u64.wrap n) = n.natAbs := by
      show (0 - n % 18446744073709551616) % 18446744073709551616 = n.natAbs
      omega
    have e2 : IntKind.u64.wrap (-IntKind.u64.wrap n) = n.natAbs := by
      show (-(n % 18446744073709551616)) % 18446744073709551616 = n.natAbs
      omega
    go_enter Tryz.func254, Tryz.ntmps254
    go_wp2
    go_ret
    exact ⟨rfl, rfl⟩
  · have h' : 0 ≤ n := by omega
    obtain ⟨m, rfl⟩ : ∃ m : Nat, n = m := ⟨n.toNat, by omega⟩
    have e1 : IntKind.u64.wrap (m : Int) = m := by
      show (m : Int) % 18446744073709551616 = m
      omega
    go_enter Tryz.func254, Tryz.ntmps254
    go_wp2
    go_ret
    exact ⟨rfl, rfl⟩

def intV (k : Nat) : Value := .int .i64 (k : Int)
theorem intV_one (D : List Nat) : ∀ u ∈ D.map intV, u.oneCell' = true := by
  intro u hu
  simp only [List.mem_map] at hu
  obtain ⟨k, _, rfl⟩ := hu
  rfl
def fr (d : Value) : Nat := match d with | .slice none _ _ => 1 | _ => 0
def RetI (D : List Nat) (w : World) (e : Ending) (w' : World) : Prop := ∃ v, e = .returned v ∧ OwnI w.heap.size v (D.map intV) w' ∧ Below w.heap.size w w'

theorem OwnI.len {B : Nat} {v : Value} {xs : List Value} {W : World} (h : OwnI B v xs W) : ∃ b c, v = .slice b xs.length c ∧ (xs ≠ [] → fr v = 0) ∧ (xs = [] → fr v = 1 ∨ xs.length = 0) := by
  rcases h.2 with ⟨rfl, h0⟩ | ⟨g, cap, cur, rfl, hgB, hg, hnc, _⟩
  · exact ⟨none, 0, by rw [h0], fun hx => absurd (List.eq_nil_of_length_eq_zero h0) hx, fun _ => .inl rfl⟩
  · exact ⟨_, _, rfl, fun _ => rfl, fun h => .inr (by rw [h]; rfl)⟩

set_option maxHeartbeats 2000000 in
theorem f190_Digits (n : Int) (hn : I64n n) (w : World) : Calls Tryz.prog 190 #[.int .i64 n] w (RetI (decN n.natAbs) w) := by
  have hN : n.natAbs < 10 ^ 20 := by have := hn.1; have := hn.2; omega
  have hN64 : n.natAbs < 18446744073709551616 := by have := hn.1; have := hn.2; omega
  have hlen := Lib.hid (decN_len n.natAbs 20 hN (by omega))
  have hlt := Lib.hid (decN_lt n.natAbs)
  clear hN
  go_enter Tryz.func190, Tryz.ntmps190
  go_wp2_with (go_at_call 254; refine (f254_bare n hn w).mono ?_; rintro e w1 ⟨rfl, rfl⟩)
  generalize n.natAbs = u0 at *
  generalize hB : w.heap.size = B
  have HB := Lib.hid hB
  clear hB hn
  go_loopw [3, 4] (fun u d wr => ∃ (m : Nat) (D : List Nat), u = .int .u64 m ∧ m < 18446744073709551616 ∧ OwnI B d (D.map intV) wr ∧ Below B w wr ∧ ((D = [] ∧ m = u0 ∧ d = .slice none 0 0) ∨ (D ≠ [] ∧ decN u0 = headN m ++ D))) (fun u d _ => (intOf u).toNat + fr d)
  case atStart => exact ⟨u0, [], rfl, hN64, ⟨rfl, .inl ⟨rfl, rfl⟩⟩, by rw [← HB.out]; exact Below.refl _ _, .inl ⟨rfl, rfl, rfl⟩⟩
  case round =>
    obtain ⟨m, D, rfl, hm, hO, hbl, hd⟩ := hrel
    have HD := Lib.hid hd
    clear hd
    obtain ⟨bb, cc, hdd, hf0, _⟩ := hO.len
    have HF := Lib.hid hf0
    clear hf0
    rw [List.length_map] at hdd
    subst hdd
    have hBW : B ≤ wr.heap.size := by rw [← HB.out]; exact hbl.size
    have hDl : (D.map intV).length ≤ 1000000 := by
      rw [List.length_map]
      have h20 := hlen.out
      rcases HD.out with ⟨rfl, _⟩ | ⟨_, h⟩
      · simp
      · rw [h, List.length_append] at h20; omega
    by_cases hgo : m = 0 ∧ D ≠ []
    · obtain ⟨rfl, hne⟩ := hgo
      have hfin : decN u0 = D := by
        rcases HD.out with ⟨h, _⟩ | ⟨_, h⟩
        · exact absurd h hne
        · simpa [headN] using h
      have hl0 : ((D.length : Int) == 0) = false := by simp; exact hne
      clear hlen hlt HD HF hne
      go_wp2
      go_ret
      exact ⟨_, rfl, by rw [HB.out, hfin]; exact hO, by rw [HB.out]; exact hbl⟩
    · have hstep : Hid (decN u0 = headN (m / 10) ++ (m % 10 :: D)) := by
        unfold Hid
        rcases HD.out with ⟨rfl, rfl, _⟩ | ⟨hne, h⟩
        · exact decN_step m
        · have hm0 : m ≠ 0 := fun e => hgo ⟨e, hne⟩
          rw [h, headN, if_neg hm0, decN_step m, List.append_assoc]; rfl
      have hcase : (m ≠ 0) ∨ (m = 0 ∧ D = []) := by
        by_cases e : m = 0
        · exact .inr ⟨e, Classical.byContradiction fun h => hgo ⟨e, h⟩⟩
        · exact .inl e
      have q1 : IntKind.u64.wrap ((m : Int) / 10) = (m / 10 : Nat) := by
        show ((m : Int) / 10) % 18446744073709551616 = (m / 10 : Nat)
        omega
      have q2 : (m : Int).tmod 10 = (m % 10 : Nat) := by
        rw [Int.tmod_eq_emod_of_nonneg (by omega)]; omega
      have hm10 : m / 10 < 18446744073709551616 := by omega
      have hr9 : m % 10 < 10 := by omega
      have hdec : Hid (m / 10 + 0 < m + fr (Value.slice bb D.length cc)) := by
        unfold Hid
        rcases hcase with h | ⟨h, h'⟩
        · omega
        · rcases HD.out with ⟨_, _, h2⟩ | ⟨hne, _⟩
          · have h3 : fr (Value.slice bb D.length cc) = 1 := by rw [h2]; rfl
            rw [h3]; omega
          · exact absurd h' hne
      clear hgo hlen hlt HD HF
      have hq : m / 10 = m / 10 := rfl
      generalize hqq : m / 10 = q at *
      generalize hrr : m % 10 = r at *
      have hmm0 : (0 : Int) ≤ m := by omega
      rcases hcase with h0 | ⟨h0, hD0⟩
      · have hpos : (0 : Int) < m := by omega
        clear h0 hqq hrr hq
        go_wp2_with (at_builtin; refine wp_pre rfl _ _ rfl (intV r) rfl rfl rfl (intV_one D) hO hbl hDl hBW ?_; intro v1 w1 hO1 hB1)
        go_roundw
        case rel =>
          refine ⟨q, r :: D, by go_num, hm10, hO1, hB1, .inr ⟨by simp, hstep.out⟩⟩
        case measure =>
          obtain ⟨_, _, _, hf, _⟩ := hO1.len
          rw [hf (by simp)]
          have h := hdec.out
          simp only [intOf]
          omega
      · have hneg : (m : Int) ≤ 0 := by omega
        have hl0 : ((D.length : Int) == 0) = true := by rw [hD0]; rfl
        have hq0 : q = 0 := by omega
        have hr0 : r = 0 := by omega
        clear hqq hrr hq hmm0
        subst h0 hq0 hr0
        clear hD0 hneg
        go_wp2_with (at_builtin; refine wp_pre rfl _ _ rfl (.int .i64 0) rfl rfl rfl (intV_one D) hO hbl hDl hBW ?_; intro v1 w1 hO1 hB1)
        go_roundw
        case rel =>
          refine ⟨0, 0 :: D, by go_num, by omega, hO1, hB1, .inr ⟨by simp, hstep.out⟩⟩
        case measure =>
          obtain ⟨_, _, _, hf, _⟩ := hO1.len
          rw [hf (by simp)]
          have h := hdec.out
          simp only [intOf]
          omega

/-- The text so far: the sign, and the digits up to k. -/
def preS (neg : Bool) : List UInt8 := if neg = true then [45] else []
theorem str_snoc (l : List UInt8) (c : UInt8) : (⟨l.toArray⟩ : ByteArray) ++ ⟨#[c]⟩ = ⟨(l ++ [c]).toArray⟩ := by
  have : ((⟨l.toArray⟩ : ByteArray) ++ ⟨#[c]⟩).data = (l ++ [c]).toArray := by
    rw [ByteArray.data_append]; simp
  exact congrArg ByteArray.mk this
theorem ch_wrap (k : Nat) (h : k < 10) : IntKind.u8.wrap (48 + (k : Int)) = (ch k).toNat := by
  have h1 : (ch k).toNat = 48 + k := by unfold ch; simp; omega
  rw [h1]
  show (48 + (k : Int)) % 256 = ((48 + k : Nat) : Int)
  omega

theorem decN_ne (u : Nat) : decN u ≠ [] := by rw [decN_step]; simp
theorem OwnI.open_ {B : Nat} {v : Value} {D : List Nat} {W : World} (h : OwnI B v (D.map intV) W) (hne : D ≠ []) :
    ∃ g cap, v = .slice (some ⟨g, 0, none⟩) D.length cap ∧ g < W.heap.size ∧ ∀ (i : Nat) (hi : i < D.length), W.cell? ⟨g, i, none⟩ = some (intV D[i]) := by
  have hO := h
  rcases hO.2 with ⟨_, h0⟩ | ⟨g, cap, cur, rfl, hgB, hg, hnc, _⟩
  · rw [List.length_map] at h0
    exact absurd (List.eq_nil_of_length_eq_zero h0) hne
  · refine ⟨g, cap, by rw [List.length_map], (Array.getElem?_eq_some_iff.1 hg).1, fun i hi => ?_⟩
    have hc := World.ownsRow.cells h (g := g) rfl i (intV D[i]) (by simp [List.getElem?_eq_getElem hi])
    have ha : (⟨g, 0, none⟩ : Addr).add i = ⟨g, 0 + i, none⟩ := by unfold Addr.add; split <;> simp_all
    rwa [ha, Nat.zero_add] at hc
theorem below_through {B1 : Nat} {w w1 w2 : World} (h : Below B1 w w1) (h2 : Below w1.heap.size w1 w2) (hB : B1 ≤ w1.heap.size) : Below B1 w w2 := h.trans (h2.mono hB)

set_option maxHeartbeats 2000000 in
set_option maxRecDepth 100000 in
theorem f110_loop (n : Int) (hn : I64n n) (w : World) (neg : Bool) (hneg : decide (n < 0) = neg) :
    Calls Tryz.prog 110 #[.int .i64 n] w (Ret (.string ⟨(preS neg ++ (decN n.natAbs).map ch).toArray⟩) w) := by
  have hlt := Lib.hid (decN_lt n.natAbs)
  have hlen := decN_len n.natAbs 20 (by have := hn.1; have := hn.2; omega) (by omega)
  have hd := f190_Digits n hn w
  have hne := decN_ne n.natAbs
  generalize decN n.natAbs = D at *
  have hcv := fun (W : World) (c : UInt8) => run_ownB (OwnB.lit W c)
  generalize hpre : preS neg = pre
  have HP := Lib.hid hpre
  clear hpre
  go_enter Tryz.func110, Tryz.ntmps110
  go_wp2_with (go_at_call 190; refine hd.mono ?_; rintro e w1 ⟨v, rfl, hO, hB1⟩; obtain ⟨g, cap, rfl, hg, hcell⟩ := hO.open_ hne; clear hO)
  all_goals
    clear hd hn
    have HC := Lib.hid hcell
    clear hcell
    have hh := Lib.hid hB1
    clear hB1
    go_loopw [3, 5] (fun u i wr => ∃ k : Nat, k ≤ D.length ∧ i = .int .i64 k ∧ u = .string ⟨(pre ++ (D.take k).map ch).toArray⟩ ∧ Below w1.heap.size w1 wr) (fun u i _ => D.length - (intOf i).toNat)
    case atStart => exact ⟨0, by omega, rfl, by rw [← HP.out]; simp [preS, *], Below.refl _ _⟩
    case round =>
      obtain ⟨k, hk, rfl, rfl, hb⟩ := hrel
      by_cases hlt2 : k < D.length
      · have hc1 : wr.cell? ⟨g, k, none⟩ = some (.int .i64 (D[k] : Nat)) := (hb.cell (p := ⟨g, k, none⟩) hg).trans (HC.out k hlt2)
        have hd10 : D[k] < 10 := hlt.out _ (List.getElem_mem hlt2)
        have hsn : Hid ((⟨(pre ++ (D.take k).map ch).toArray⟩ : ByteArray) ++ ⟨#[ch D[k]]⟩ = ⟨(pre ++ (D.take (k + 1)).map ch).toArray⟩) := by
          unfold Hid
          rw [str_snoc, List.append_assoc, List.take_succ_eq_append_getElem hlt2, List.map_append]
          rfl
        have hsz : (⟨(pre ++ (D.take k).map ch).toArray⟩ : ByteArray).size ≤ 100 := by
          have h1 : pre.length ≤ 1 := by rw [← HP.out]; unfold preS; split <;> simp
          show (pre ++ (D.take k).map ch).toArray.size ≤ 100
          rw [List.size_toArray, List.length_append, List.length_map, List.length_take]
          omega
        generalize D[k] = x at *
        have hw := ch_wrap x hd10
        generalize (⟨(pre ++ (D.take k).map ch).toArray⟩ : ByteArray) = s0 at *
        have hcv1 := hcv wr (ch x)
        generalize ch x = cx at *
        clear hcv HC hlt
        go_wp2
        go_roundw
        case rel =>
          refine ⟨k + 1, by omega, by go_num, by rw [hsn.out], hb.alloc hb.size _⟩
        case measure => simp [intOf]; omega
      · obtain rfl : k = D.length := by omega
        rw [List.take_length]
        have hb2 : Below w.heap.size w wr := below_through hh.out hb hh.out.size
        clear hcv HC hlt hh
        go_wp2
        go_ret
        exact ⟨rfl, hb2⟩
theorem f110_Text (n : Int) (hn : I64n n) (w : World) : Calls Tryz.prog 110 #[.int .i64 n] w (Ret (.string (decS n)) w) := by
  refine (f110_loop n hn w _ rfl).mono ?_
  rintro e w1 ⟨rfl, h⟩
  refine ⟨?_, h⟩
  congr 3
  unfold Lib.itoa preS
  by_cases h0 : n < 0
  · rw [if_pos h0, if_pos (decide_eq_true h0), decDigits_decN]; rfl
  · rw [if_neg h0, if_neg (by simpa using h0), decDigits_decN]
    have : n.natAbs = n.toNat := by omega
    rw [this]; rfl
end Go.Proofs.YtijgmloodkbljaaGreatDoor
