import Derived.Test.YtijgmloodkbljaaGreatDoorQuo
import Derived.Deep.AppendLies
import Derived.Deep.RegionHeld3
import Derived.Deep.RegionLaw
namespace Go.Proofs.YtijgmloodkbljaaGreatDoor
open Go Go.RowKit

/-- The slice v is a row of the call's own (from block B on) that holds the bytes l. -/
def OwnB (B : Nat) (v : Value) (l : List UInt8) (W : World) : Prop := W.ownsRow B 5 1 v l.length (Lib.byteCells l)

theorem OwnB.lit (w : World) (x : UInt8) : OwnB w.heap.size (.slice (some ⟨w.heap.size, 0, none⟩) 1 1) [x] (w.alloc (.cells #[.int .u8 x.toNat] 5)) :=
  ⟨rfl, .inr ⟨w.heap.size, 1, #[.int .u8 x.toNat], rfl, Nat.le_refl _, heap_alloc_new w _, Nat.le_refl _, by unfold maxLen; omega, rfl, rfl⟩⟩

theorem byteCells_one' (l : List UInt8) : ∀ u ∈ Lib.byteCells l, u.oneCell' = true := by
  intro u hu
  simp only [Lib.byteCells, List.mem_map] at hu
  obtain ⟨b, _, rfl⟩ := hu
  rfl

/-- v = append(v, bytes...), the bytes laid into a block of their own. -/
theorem run_appB {W0 W : World} {B : Nat} (ty : TypeId) {v : Value} {L : List UInt8} (hown : OwnB B v L W) (hB : Below B W0 W) (news : List UInt8) (hlen : L.length + news.length ≤ 100000000000) (hBW : B ≤ W.heap.size) :
    ∃ v' w', (Builtin.append_ #[65, 65] ty #[v, .slice (some ⟨W.heap.size, 0, none⟩) news.length news.length]).run Tryz.prog (W.alloc (.cells (Lib.byteCells news).toArray 5)) = .ok v' w' ∧ OwnB B v' (L ++ news) w' ∧ Below B W0 w' := by
  obtain ⟨i0, hi, hz0, hz1, hz2⟩ := info_parts infoByte
  obtain ⟨v', w', hr, hown', hg, _⟩ := run_append_own (P := Tryz.prog) (W.alloc (.cells (Lib.byteCells news).toArray 5)) B 65 ty 5 i0 (.int .u8 0) 1 1 Tryz.underlying65 hi hz0 hz1 hz2 rfl (by decide) v L.length (Lib.byteCells L) (World.ownsRow.alloc hown _) ⟨W.heap.size, 0, none⟩ news.length news.length (Lib.byteCells news)
    (by rw [Lib.byteCells_length, Nat.mul_one]) (by
      intro j u hu
      have : (⟨W.heap.size, 0, none⟩ : Addr).add j = ⟨W.heap.size, j, none⟩ := by unfold Addr.add; split <;> simp_all
      rw [this, Lib.cell_of_heap (heap_alloc_new W _) j]
      simpa using hu) (byteCells_one' news) (by unfold maxLen; omega) (by omega) (by simp; omega)
  refine ⟨v', w', hr, by unfold OwnB; rw [Lib.byteCells_append, List.length_append]; exact hown', (hB.alloc hBW _).grown hg (by simp; omega) ?_⟩
  intro k hk
  rcases hown.2 with ⟨rfl, _⟩ | ⟨g, cap, cur, rfl, hgB, _⟩
  · simp [Value.ownBlock] at hk
  · simp [Value.ownBlock] at hk; omega

theorem wp_appB0 {o : Oper} {a : Act} {K : Act → World → Prop} {Q : Exit → Act → World → Prop} {W0 W : World} {B : Nat} (s x : Operand)
    (ho : o.op = .call { callee := .builtin .append, args := #[s, x], argTypes := #[65, 65] })
    {v : Value} {L : List UInt8} (hs : a.eval s = v) (hown : OwnB B v L W) (hB : Below B W0 W) (news : List UInt8) (cs : Array Value) (hx : a.eval x = .slice (some ⟨W.heap.size, 0, none⟩) news.length news.length)
    (hcs : cs = (Lib.byteCells news).toArray) (hlen : L.length + news.length ≤ 100000000000) (hBW : B ≤ W.heap.size)
    (h : ∀ v' w', OwnB B v' (L ++ news) w' → Below B W0 w' → K (a.put o.dst v') w') : o.wp Tryz.prog a (W.alloc (.cells cs 5)) K Q := by
  subst hcs
  obtain ⟨v', w', hr, h2, h3⟩ := run_appB o.type hown hB news hlen hBW
  unfold Oper.wp execOp
  simp only [ho, resolve, invoke, builtin, Sem.run_bind, Sem.run_pure, Result.andThen_ok, List.map_toArray, List.map_cons, List.map_nil, hs, hx, hr]
  exact h v' w' h2 h3
theorem wp_appB {ops : Array Oper} {rest : List Oper} {o : Oper} {a : Act} {Q : Exit → Act → World → Prop} {W0 W : World} {B : Nat} (hgd : o.guard = none) (s x : Operand)
    (ho : o.op = .call { callee := .builtin .append, args := #[s, x], argTypes := #[65, 65] })
    {v : Value} {L : List UInt8} (hs : a.eval s = v) (hown : OwnB B v L W) (hB : Below B W0 W) (news : List UInt8) (cs : Array Value) (hx : a.eval x = .slice (some ⟨W.heap.size, 0, none⟩) news.length news.length)
    (hcs : cs = (Lib.byteCells news).toArray) (hlen : L.length + news.length ≤ 100000000000) (hBW : B ≤ W.heap.size)
    (h : ∀ v' w', OwnB B v' (L ++ news) w' → Below B W0 w' → wpList Tryz.prog ops Q rest (a.put o.dst v') w') : wpList Tryz.prog ops Q (o :: rest) a (W.alloc (.cells cs 5)) :=
  wpList_plain hgd fun _ hK => wp_appB0 s x ho hs hown hB news cs hx hcs hlen hBW fun v' w' h2 h3 => hK _ _ (h v' w' h2 h3)
theorem step_appB {ops : Array Oper} {o : Oper} {a : Act} {K : Act → World → Prop} {Q : Exit → Act → World → Prop} {E : Prop} {W0 W : World} {B : Nat} (hgd : o.guard = none) (s x : Operand)
    (ho : o.op = .call { callee := .builtin .append, args := #[s, x], argTypes := #[65, 65] })
    {v : Value} {L : List UInt8} (hs : a.eval s = v) (hown : OwnB B v L W) (hB : Below B W0 W) (news : List UInt8) (cs : Array Value) (hx : a.eval x = .slice (some ⟨W.heap.size, 0, none⟩) news.length news.length)
    (hcs : cs = (Lib.byteCells news).toArray) (hlen : L.length + news.length ≤ 100000000000) (hBW : B ≤ W.heap.size)
    (h : ∀ v' w', OwnB B v' (L ++ news) w' → Below B W0 w' → K (a.put o.dst v') w') :
    if Region.wanted o (yielded ops a.tmps) = true then Oper.wp Tryz.prog o a (W.alloc (.cells cs 5)) K Q else E := by
  have hw : Region.wanted o (yielded ops a.tmps) = true := by simp [Region.wanted, hgd]
  rw [if_pos hw]
  exact wp_appB0 s x ho hs hown hB news cs hx hcs hlen hBW h

theorem dig16 (n : Nat) (hn : n < 16) (h : n < ({ data := #[48, 49, 50, 51, 52, 53, 54, 55, 56, 57, 97, 98, 99, 100, 101, 102] } : ByteArray).size) : ({ data := #[48, 49, 50, 51, 52, 53, 54, 55, 56, 57, 97, 98, 99, 100, 101, 102] } : ByteArray)[n]'h = hexD n := by
  obtain rfl | rfl | rfl | rfl | rfl | rfl | rfl | rfl | rfl | rfl | rfl | rfl | rfl | rfl | rfl | rfl : n = 0 ∨ n = 1 ∨ n = 2 ∨ n = 3 ∨ n = 4 ∨ n = 5 ∨ n = 6 ∨ n = 7 ∨ n = 8 ∨ n = 9 ∨ n = 10 ∨ n = 11 ∨ n = 12 ∨ n = 13 ∨ n = 14 ∨ n = 15 := by omega
  all_goals rfl
theorem wrap_u8 (n : Nat) (h : n < 256) : IntKind.u8.wrap (n : Int) = n := by
  have : (n : Int) % 256 = n := by omega
  show (n : Int) % 256 = n
  exact this
theorem strOfNums_bytes (L : List UInt8) : strOfNums (L.map fun b => (b.toNat : Int)) = ⟨L.toArray⟩ := by
  have e : ((fun n : Int => UInt8.ofNat n.toNat) ∘ fun b : UInt8 => (b.toNat : Int)) = id := by funext b; simp
  have : (L.map fun b => (b.toNat : Int)).map (fun n : Int => UInt8.ofNat n.toNat) = L := by
    rw [List.map_map, e, List.map_id]
  unfold strOfNums
  rw [this]

/-- string(v). -/
theorem run_ownB {B : Nat} {v : Value} {L : List UInt8} {W : World} (h : OwnB B v L W) : (convert 65 9 v).run Tryz.prog W = .ok (.string ⟨L.toArray⟩) W := by
  unfold OwnB at h
  rcases h.2 with ⟨rfl, h0⟩ | ⟨g, cap, cur, rfl, _⟩
  · obtain rfl : L = [] := List.eq_nil_of_length_eq_zero h0
    have e := run_convert_bytes_nil (P := Tryz.prog) W 65 5 Tryz.underlying65 Tryz.underlying5 0 0 9 Tryz.underlying9
    exact e
  · have e := run_convert_bytes_arg (P := Tryz.prog) W 65 5 Tryz.underlying65 Tryz.underlying5 g 0 L.length cap (L.map fun b => (b.toNat : Int)) (by simp) (fun i hi => by
      have hc := h.cells (g := g) rfl i (.int .u8 ((L.map fun b => (b.toNat : Int)).getD i 0)) (by
        simp [Lib.byteCells, List.getElem?_eq_getElem hi, List.getD_eq_getElem?_getD])
      have ha : (⟨g, 0, none⟩ : Addr).add i = ⟨g, 0 + i, none⟩ := by unfold Addr.add; split <;> simp_all
      rwa [ha] at hc) 9 Tryz.underlying9
    have h3 : strOfNums (L.map fun b => (b.toNat : Int)) = ⟨L.toArray⟩ := strOfNums_bytes L
    rw [h3] at e
    exact e

set_option maxHeartbeats 4000000 in
set_option maxRecDepth 100000 in
theorem f207_Quote (s : ByteArray) (w : World) (hs : s.size ≤ 1048576) :
    Calls Tryz.prog 207 #[.string s] w (Ret (.string ⟨(quoteL s.data.toList).toArray⟩) w) := by
  generalize hR : quoteL s.data.toList = R
  have HR := Lib.hid hR
  clear hR
  go_enter Tryz.func207, Tryz.ntmps207
  go_wp2
  have hO := OwnB.lit w 39
  have hB0 : Below w.heap.size w (w.alloc (.cells #[.int .u8 39] 5)) := (Below.refl _ _).alloc (Nat.le_refl _) _
  have hb : w.heap.size ≤ w.heap.size := Nat.le_refl _
  generalize hBB : w.heap.size = B at *
  have HB := Lib.hid hBB
  clear hBB hb
  go_loopw [3, 4, 5] (fun v i u wr => ∃ k : Nat, k ≤ s.size ∧ i = .int .i64 k ∧ OwnB B v (39 :: (s.data.toList.take k).flatMap qc) wr ∧ Below B w wr) (fun v i u _ => s.size - (intOf i).toNat)
  case atStart => exact ⟨0, by omega, rfl, hO, hB0⟩
  case round =>
    clear hO hB0
    obtain ⟨k, hk, rfl, hO, hB⟩ := hrel
    have hBW : B ≤ wr.heap.size := by rw [← HB.out]; exact hB.size
    have hfl := flat_length (s.data.toList.take k)
    have htl : (s.data.toList.take k).length ≤ 1048576 := by rw [List.length_take, data_len]; omega
    have hll : (39 :: (s.data.toList.take k).flatMap qc).length ≤ 5000000 := by rw [List.length_cons]; omega
    clear hfl htl
    by_cases hlt : k < s.size
    · have hsn := Lib.hid (flat_snoc s k hlt)
      generalize hL : 39 :: (s.data.toList.take k).flatMap qc = L at *
      have HL := Lib.hid hL
      clear hL
      by_cases h39 : s[k] = 39 ∨ s[k] = 92
      · have hqc : Hid (qc s[k] = [92, s[k]]) := by
          unfold Hid qc
          rw [if_neg (by rcases h39 with h | h <;> rw [h] <;> decide), if_pos h39]
        have hor : ((s[k].toNat : Int) == 39) = true ∨ (((s[k].toNat : Int) == 39) = false ∧ ((s[k].toNat : Int) == 92) = true) := by
          rcases h39 with h | h
          · exact .inl (by rw [h]; rfl)
          · exact .inr ⟨by rw [h]; rfl, by rw [h]; rfl⟩
        clear h39
        rcases hor with e1 | ⟨e1, e2⟩
        all_goals
          go_wp2_with (at_builtin; refine wp_appB rfl _ _ rfl rfl hO hB [92, s[k]] _ rfl rfl (by simp; omega) hBW ?_; intro v1 w1 hO1 hB1)
          go_roundw
          case rel =>
            refine ⟨k + 1, by omega, by go_num, ?_, hB1⟩
            rw [hsn.out, hqc.out, ← List.cons_append, HL.out]
            exact hO1
          case measure => simp [intOf]; omega
      · have e1 : ((s[k].toNat : Int) == 39) = false := by
          simp only [beq_eq_false_iff_ne, ne_eq]; intro h; exact h39 (.inl (UInt8.toNat_inj.1 (by simp; omega)))
        have e2 : ((s[k].toNat : Int) == 92) = false := by
          simp only [beq_eq_false_iff_ne, ne_eq]; intro h; exact h39 (.inr (UInt8.toNat_inj.1 (by simp; omega)))
        by_cases hq : s[k].toNat < 32 ∨ 126 < s[k].toNat
        · have hqc : Hid (qc s[k] = [92, 120, hexD (s[k].toNat / 16), hexD (s[k].toNat % 16)]) := by unfold Hid qc; rw [if_pos hq]
          clear h39
          have hbb := byte_bounds s[k]
          obtain ⟨hb0, hb1⟩ := hbb
          have hor : (s[k].toNat : Int) < 32 ∨ (32 ≤ (s[k].toNat : Int) ∧ 126 < (s[k].toNat : Int)) := by omega
          clear hq
          have hq1 : IntKind.u8.wrap ((s[k].toNat : Int) / 16) = (s[k].toNat / 16 : Nat) := by
            have : ((s[k].toNat : Int) / 16) = ((s[k].toNat / 16 : Nat) : Int) := by omega
            rw [this]; exact wrap_u8 _ (by omega)
          have hq2 : (s[k].toNat : Int).tmod 16 = (s[k].toNat % 16 : Nat) := by
            rw [Int.tmod_eq_emod_of_nonneg (by omega)]; omega
          have d1 : s[k].toNat / 16 < 16 := by omega
          have m1 : s[k].toNat % 16 < 16 := by omega
          generalize hdd : s[k].toNat / 16 = d at *
          generalize hmm : s[k].toNat % 16 = m at *
          clear hdd hmm
          have d2 : (d:Int) < 16 := by omega
          have m2 : (m:Int) < 16 := by omega
          rcases hor with e3 | ⟨e3, e4⟩
          all_goals
            go_wp2
            have hO2 : OwnB B u3 L wr.drew := hO
            have hB2 : Below B w wr.drew := hB.drew
            go_region_law ((refine step_appB rfl _ _ rfl rfl hO2 hB2 [92, 120, hexD d, hexD m] _ rfl (by simp [Lib.byteCells, dig16, d1, m1]) (by simp; omega) hBW ?_; intro v1 w1 hO1 hB1))
            all_goals
              simp only [List.getElem_toArray, List.getElem_cons_succ, List.getElem_cons_zero]
              go_simp
              rename_i hcont
              refine hcont _ _ ?_
              clear hcont
              go_wp2
              go_roundw
              case rel =>
                refine ⟨k + 1, by omega, by go_num, ?_, hB1⟩
                rw [hsn.out, hqc.out, ← List.cons_append, HL.out]
                exact hO1
              case measure => simp [intOf]; omega
        · have hqc : Hid (qc s[k] = [s[k]]) := by unfold Hid qc; rw [if_neg hq, if_neg h39]
          have e3 : 32 ≤ (s[k].toNat : Int) := by omega
          have e4 : (s[k].toNat : Int) ≤ 126 := by omega
          clear hq h39
          go_wp2_with (at_builtin; refine wp_appB rfl _ _ rfl rfl hO hB [s[k]] _ rfl rfl (by simp; omega) hBW ?_; intro v1 w1 hO1 hB1)
          go_roundw
          case rel =>
            refine ⟨k + 1, by omega, by go_num, ?_, hB1⟩
            rw [hsn.out, hqc.out, ← List.cons_append, HL.out]
            exact hO1
          case measure => simp [intOf]; omega
    · have hL : Hid ((39 :: (s.data.toList.take k).flatMap qc) ++ [39] = R) := by
        unfold Hid
        rw [← HR.out, List.take_of_length_le (by simp; omega)]
        rfl
      go_wp2_with (at_builtin; refine wp_appB rfl _ _ rfl rfl hO hB [39] _ rfl rfl (by simp at hll ⊢; omega) hBW ?_; intro v1 w1 hO1 hB1; rw [hL.out] at hO1; have hcv := run_ownB hO1)
      go_ret
      refine ⟨rfl, by rw [HB.out]; exact hB1⟩
end Go.Proofs.YtijgmloodkbljaaGreatDoor
