import Derived.Test.YtijgmloodkbljaaGreatDoorLbA
import Derived.Test.YtijgmloodkbljaaGreatDoorLbB
import Derived.Maps.AppendAt
import Derived.Lib.AppendStr
import Derived.Lib.UnsafeStr
import Derived.Laws.BitsAllLaws
import Derived.Lib.LaidTab
import Derived.Lib.ItoaNum
import Derived.Handy
import Derived.Lib.ConvBytes
namespace Go.Proofs.YtijgmloodkbljaaGreatDoor
open Go Go.RowKit

/-- The block in which the buffer of the builder at block b lies. -/
def rowOf (w : World) (b : Nat) : Option Nat :=
  match w.heap[b]? with
  | some (.cells cs _ _) => cs[1]?.bind Value.ownBlock
  | _ => none

/-- What a writer of the builder at block b leaves as it was: every block but b and the buffer's. -/
structure KeepB (b : Nat) (w w' : World) : Prop where
  os : w'.os = w.os
  tape : w'.tape = w.tape
  output : w'.output = w.output
  size : w.heap.size ≤ w'.heap.size
  block : ∀ k, k < w.heap.size → k ≠ b → rowOf w b ≠ some k → w'.heap[k]? = w.heap[k]? ∧ rowOf w' b ≠ some k

theorem KeepB.refl (b : Nat) (w : World) : KeepB b w w := ⟨rfl, rfl, rfl, Nat.le_refl _, fun _ _ _ h => ⟨rfl, h⟩⟩
theorem KeepB.trans {b : Nat} {w w1 w2 : World} (h : KeepB b w w1) (k : KeepB b w1 w2) : KeepB b w w2 :=
  ⟨k.os.trans h.os, k.tape.trans h.tape, k.output.trans h.output, Nat.le_trans h.size k.size, fun i hi hb hr =>
    let ⟨e1, r1⟩ := h.block i hi hb hr
    let ⟨e2, r2⟩ := k.block i (Nat.lt_of_lt_of_le hi h.size) hb r1
    ⟨e2.trans e1, r2⟩⟩

/-- A builder at block b that holds the bytes l; its buffer lies from block B on. -/
def Bl (B b : Nat) (l : List UInt8) (w : World) : Prop := Lib.IsBuilder 101 5 B b (Lib.byteCells l) w

theorem rowOf_at {b : Nat} {p v : Value} {w : World} (hb : w.heap[b]? = some (.cells #[p, v] 101 (0, 0))) : rowOf w b = v.ownBlock := by
  unfold rowOf; rw [hb]; rfl
theorem Bl.open_ {B b : Nat} {l : List UInt8} {w : World} (h : Bl B b l w) : ∃ p v, B ≤ b ∧ w.heap[b]? = some (.cells #[p, v] 101 (0, 0)) ∧ w.ownsRow B 5 1 v l.length (Lib.byteCells l) ∧ v.ownBlock ≠ some b := by
  rcases h with h | h
  all_goals
    obtain ⟨hB, v, hb, ho, hn⟩ := h
    exact ⟨_, v, hB, hb, by rw [Lib.byteCells_length] at ho; exact ho, hn⟩
theorem Bl.lt {B b : Nat} {l : List UInt8} {w : World} (h : Bl B b l w) : b < w.heap.size := by
  rcases h with h | h <;> exact h.lt
/-- Below B a builder's writer keeps all. -/
theorem KeepB.below {B b : Nat} {l : List UInt8} {w w' : World} (h : KeepB b w w') (hb : Bl B b l w) : Below B w w' := by
  obtain ⟨p, v, hB, hbk, ho, _⟩ := hb.open_
  refine ⟨h.os, h.tape, h.output, h.size, fun k hk => ?_⟩
  rcases Nat.lt_or_ge k w.heap.size with hlt | hge
  · refine (h.block k hlt (by omega) ?_).1
    rw [rowOf_at hbk]
    intro e
    rcases ho.2 with ⟨rfl, _⟩ | ⟨g, cap, cur, rfl, hg, _⟩
    · simp [Value.ownBlock] at e
    · simp [Value.ownBlock] at e; omega
  · have := hb.lt
    omega
theorem Bl.fresh (w : World) : Bl w.heap.size w.heap.size [] (w.alloc (.cells #[.pointer none, .slice none 0 0] 101)) := Lib.fresh_isBuilder 101 5 w

theorem f159_b (B b : Nat) (l : List UInt8) (w : World) (h : Bl B b l w) :
    Calls Tryz.prog 159 #[.pointer (some ⟨b, 0, none⟩)] w fun e w' => e = .returned (.tuple #[]) ∧ (Lib.BuilderAt 101 5 B b (.pointer (some ⟨b, 0, none⟩)) (Lib.byteCells l) w' ∧ KeepB b w w') := by
  rcases h with h | h
  · refine (f159_fresh b w h.cell0 h.shape h.frozen0).mono ?_
    rintro e w' ⟨rfl, rfl⟩
    obtain ⟨hB, v, hbk, _⟩ := id h
    refine ⟨rfl, h.used _, ⟨rfl, rfl, rfl, by simp [World.setCell], fun k hk hkb hr => ⟨Below.heap_setCell _ _ _ _ (by exact hkb), ?_⟩⟩⟩
    obtain ⟨_, v', hbk', _⟩ := h.used (.pointer (some ⟨b, 0, none⟩))
    rw [rowOf_at hbk] at hr
    rw [rowOf_at hbk']
    have : v' = v := by
      have h2 : (w.setCell ⟨b, 0, none⟩ (.pointer (some ⟨b, 0, none⟩))).heap[b]? = some (.cells #[.pointer (some ⟨b, 0, none⟩), v] 101 (0, 0)) := by
        simp [World.setCell, Array.getElem?_modify, hbk]
      rw [h2] at hbk'
      simp at hbk'
      exact hbk'.symm
    rw [this]; exact hr
  · refine (f159_used b w h.cell0).mono ?_
    rintro e w' ⟨rfl, rfl⟩
    exact ⟨rfl, h, KeepB.refl _ _⟩

/-- append(v, s...) on a row of the call's own: where the new slice lies. -/
theorem append_str_at {P : Program} (w : World) (base : Nat) (t u ty e : TypeId) (i : TypeInfo) (ht : P.underlying t = some (.slice e)) (hu : P.underlying u = some .string) (hi : P.info? e = some i) (hz : i.zero = some (.int .u8 0))
    (hsize : i.size = 1) (hby : i.bytes = 1) (v : Value) (n : Nat) (xs : List Value) (hown : w.ownsRow base e 1 v n xs) (s : ByteArray)
    (hbytes : n + s.size ≤ 140737488355328) (hbase : base ≤ w.heap.size) :
    ∃ v' w', (Builtin.append_ #[t, u] ty #[v, .string s]).run P w = .ok v' w' ∧ w'.ownsRow base e 1 v' (n + s.size) (xs ++ Lib.strCells s) ∧ w.grownBy w' v.ownBlock ∧
      (v'.ownBlock = v.ownBlock ∨ v'.ownBlock = some w.heap.size) := by
  obtain ⟨v', w', hr, h2, h3, _⟩ := Lib.run_append_own_string (P := P) w base t u ty e i ht hu hi hz hsize hby v n xs hown s (by unfold maxLen; omega) hbytes hbase
  refine ⟨v', w', hr, h2, h3, ?_⟩
  rcases hown.2 with ⟨rfl, rfl⟩ | ⟨g, cap, cur, rfl, hbg, hg, hnc, hcm, hcs, htake⟩
  · rcases Nat.eq_zero_or_pos s.size with h0 | h0
    · rcases h2.2 with ⟨rfl, _⟩ | ⟨g, cap, cur, rfl, _, _, _, _, _, _⟩
      · exact .inl rfl
      · -- nothing is appended to nil: nil
        have hf := Lib.run_firstCells_string (P := P) w 1 s
        rw [h0] at hf
        have : (Builtin.append_ #[t, u] ty #[.slice none 0 0, .string s]).run P w = .ok (.slice none 0 0) w := by
          simp [Builtin.append_, run_underlying ht, run_underlying hu, sizeOf, typeInfo, hi, hsize, Builtin.lenOf, h0, hf]
        rw [hr] at this
        simp at this
    · have := run_append_nil_string (P := P) w t u ty e i (.int .u8 0) ht hu hi hz s h0 (by omega) (by rw [hby]; omega)
      rw [hr] at this
      simp only [Result.ok.injEq] at this
      exact .inr (by rw [this.1]; rfl)
  · by_cases hroom : n + s.size ≤ cap
    · have := Lib.run_append_room_string (P := P) w t u ty e i ht hu hi hsize g n cap cur hg s hroom (by omega)
      rw [hr] at this
      simp only [Result.ok.injEq] at this
      exact .inl (by rw [this.1]; rfl)
    · have := Lib.run_append_grow_string (P := P) w t u ty e i (.int .u8 0) ht hu hi hz ⟨g, 0, none⟩ n cap xs (by rw [hsize]; exact hown.1) (hown.cells (g := g) rfl) s (by omega) (by omega) (growslice_fits (by omega) (by rw [hby]; omega))
      rw [hr] at this
      simp only [Result.ok.injEq] at this
      exact .inr (by rw [this.1]; rfl)

theorem wpList_append_str_at {P : Program} {ops : Array Oper} {rest : List Oper} {o : Oper} {a : Act} {Q : Exit → Act → World → Prop} (w : World) (hgd : o.guard = none) (sl x : Operand) (t u : TypeId)
    (ho : o.op = .call { callee := .builtin .append, args := #[sl, x], argTypes := #[t, u] })
    (base : Nat) (e : TypeId) (i : TypeInfo) (ht : P.underlying t = some (.slice e)) (hu : P.underlying u = some .string) (hi : P.info? e = some i) (hz : i.zero = some (.int .u8 0))
    (hsize : i.size = 1) (hby : i.bytes = 1)
    (v : Value) (n : Nat) (xs : List Value) (hs : a.eval sl = v) (hown : w.ownsRow base e 1 v n xs) (s : ByteArray) (hx : a.eval x = .string s)
    (hbytes : n + s.size ≤ 140737488355328) (hbase : base ≤ w.heap.size)
    (h : ∀ v' w', w'.ownsRow base e 1 v' (n + s.size) (xs ++ Lib.strCells s) → w.grownBy w' v.ownBlock → (v'.ownBlock = v.ownBlock ∨ v'.ownBlock = some w.heap.size) → wpList P ops Q rest (a.put o.dst v') w') : wpList P ops Q (o :: rest) a w := by
  refine wpList_plain hgd fun K hK => ?_
  obtain ⟨v', w', hr, h2, h3, h4⟩ := append_str_at (P := P) w base t u o.type e i ht hu hi hz hsize hby v n xs hown s hbytes hbase
  unfold Oper.wp execOp
  simp only [ho, resolve, invoke, builtin, Sem.run_bind, Sem.run_pure, Result.andThen_ok, List.map_toArray, List.map_cons, List.map_nil, hs, hx, hr]
  exact hK _ _ (h v' w' h2 h3 h4)

/-- What stands behind a write: the buffer laid into the builder. -/
theorem put_bl {B b : Nat} {p v v' : Value} {l' : List UInt8} {w w0 w2 : World} (hB : B ≤ b) (h0 : w0.heap[b]? = some (.cells #[p, v] 101 (0, 0))) (hk : KeepB b w w0) (hrow : rowOf w0 b = v.ownBlock)
    (hown : w2.ownsRow B 5 1 v' l'.length (Lib.byteCells l')) (hne : v.ownBlock ≠ some b) (W : World) (hW : w0.heap.size ≤ W.heap.size) (hWb : ∀ k, k < w0.heap.size → W.heap[k]? = w0.heap[k]?) (hWs : W.os = w0.os ∧ W.tape = w0.tape ∧ W.output = w0.output)
    (hg : W.grownBy w2 v.ownBlock) (hat : v'.ownBlock = v.ownBlock ∨ v'.ownBlock = some W.heap.size) :
    Lib.BuilderAt 101 5 B b p (Lib.byteCells l') (w2.setCell ⟨b, 1, none⟩ v') ∧ KeepB b w (w2.setCell ⟨b, 1, none⟩ v') := by
  have hlt : b < w0.heap.size := (Array.getElem?_eq_some_iff.1 h0).1
  have hb2 : w2.heap[b]? = some (.cells #[p, v] 101 (0, 0)) := by
    rw [hg.block b (by omega) (fun e => hne e.symm), hWb b hlt]
    exact h0
  have hput := Lib.BuilderAt.put (T := 101) (e := 5) hB hb2 (bs' := Lib.byteCells l') (by rw [Lib.byteCells_length]; exact hown) (by decide)
  refine ⟨hput, hk.trans ⟨?_, ?_, ?_, ?_, fun k hkl hkb hr => ?_⟩⟩
  · exact hg.os.trans hWs.1
  · exact hg.tape.trans hWs.2.1
  · exact hg.output.trans hWs.2.2
  · have := hg.size
    simp [World.setCell]
    omega
  · rw [hrow] at hr
    refine ⟨?_, ?_⟩
    · rw [Below.heap_setCell _ _ _ _ (by exact hkb), hg.block k (by omega) (fun e => hr e.symm), hWb k hkl]
    · have h3 : (w2.setCell ⟨b, 1, none⟩ v').heap[b]? = some (.cells #[p, v'] 101 (0, 0)) := by
        simp [World.setCell, Array.getElem?_modify, hb2]
      rw [rowOf_at h3]
      rcases hat with e | e
      · rw [e]; exact hr
      · rw [e]
        intro h4
        simp at h4
        omega

set_option maxHeartbeats 2000000 in
set_option maxRecDepth 100000 in
theorem f79_b (B b : Nat) (l : List UInt8) (c : UInt8) (w : World) (h : Bl B b l w) (hlen : l.length + 1 ≤ 140737488355328) :
    Calls Tryz.prog 79 #[.pointer (some ⟨b, 0, none⟩), .int .u8 c.toNat] w fun e w' => e = .returned .nilIface ∧ (Bl B b (l ++ [c]) w' ∧ KeepB b w w') := by
  obtain ⟨i0, hi, hz0, hz1, hz2⟩ := info_parts infoByte
  go_enter Tryz.func79, Tryz.ntmps79
  go_wp2_with (go_at_call 159; refine (f159_b B b l _ h).mono ?_)
  rintro e w1 ⟨rfl, h1, hk1⟩
  have hb1 := hk1.below h
  have hlb := h.lt
  obtain ⟨hB, v, hbk, hown, hne⟩ := h1
  rw [Lib.byteCells_length] at hown
  have c0 : w1.cell? ⟨b, 0, none⟩ = some (.pointer (some ⟨b, 0, none⟩)) := by rw [Lib.cell_of_heap hbk]; rfl
  have c1 : w1.cell? ⟨b, 1, none⟩ = some v := by rw [Lib.cell_of_heap hbk]; rfl
  have hBw : B ≤ w1.heap.size := by have := hb1.size; omega
  have hlt : b < w1.heap.size := by have := hb1.size; omega
  clear hlb
  go_wp2_with (at_builtin; refine wpList_append_own_at _ rfl _ _ 65 rfl B 5 i0 (.int .u8 0) 1 1 Tryz.underlying65 hi hz0 hz1 hz2 rfl (by decide) _ _ _ rfl (hown.alloc _) ⟨w1.heap.size, 0, none⟩ 1 1 [.int .u8 c.toNat] rfl rfl ?c1 ?c2 ?c3 ?c4 ?c5 ?_)
  case c1 =>
    intro j u hj
    match j, hj with
    | 0, hj => simp at hj; subst hj; simp [Addr.add]
  case c2 => intro u hu; simp at hu; subst hu; rfl
  case c3 => unfold maxLen; omega
  case c4 => omega
  case c5 => simp; omega
  intro v' w2 hown' hgrow _ hat
  obtain ⟨g, cap, rfl⟩ : ∃ g cap, v' = .slice (some ⟨g, 0, none⟩) (l.length + 1) cap := by
    rcases hown'.2 with ⟨_, h0⟩ | ⟨g, cap, cur, hv, _⟩
    · omega
    · exact ⟨g, cap, hv⟩
  have hp := put_bl (l' := l ++ [c]) (w := w) (w0 := w1) hB hbk hk1 (rowOf_at hbk) (by rw [Lib.byteCells_append]; simpa [Lib.byteCells] using hown') hne (w1.alloc (.cells #[.int .u8 c.toNat] 5)) (by simp) (fun k hk => Lib.alloc_old w1 _ k hk) ⟨rfl, rfl, rfl⟩ hgrow (by rw [World.size_alloc]; exact hat)
  have hb2 : w2.heap[b]? = some (.cells #[.pointer (some ⟨b, 0, none⟩), v] 101 (0, 0)) := by
    rw [hgrow.block b (by simp; omega) (fun e => hne e.symm), Lib.alloc_old w1 _ b hlt]
    exact hbk
  have d0 : w2.cell? ⟨b, 0, none⟩ = some (.pointer (some ⟨b, 0, none⟩)) := by rw [Lib.cell_of_heap hb2]; rfl
  have d1 : w2.cell? ⟨b, 1, none⟩ = some v := by rw [Lib.cell_of_heap hb2]; rfl
  have f1 : w2.frozen? ⟨b, 1, none⟩ = false := Lib.frozen_of_heap hb2 1
  go_wp2
  go_ret
  exact ⟨rfl, .inr hp.1, hp.2⟩

set_option maxHeartbeats 2000000 in
set_option maxRecDepth 100000 in
theorem f80_b (B b : Nat) (l : List UInt8) (s : ByteArray) (w : World) (h : Bl B b l w) (hlen : l.length + s.size ≤ 140737488355328) :
    Calls Tryz.prog 80 #[.pointer (some ⟨b, 0, none⟩), .string s] w fun e w' => e = .returned (.tuple #[.int .i64 s.size, .nilIface]) ∧ (Bl B b (l ++ s.data.toList) w' ∧ KeepB b w w') := by
  obtain ⟨i0, hi, hz0, hz1, hz2⟩ := info_parts infoByte
  go_enter Tryz.func80, Tryz.ntmps80
  go_wp2_with (go_at_call 159; refine (f159_b B b l _ h).mono ?_)
  rintro e w1 ⟨rfl, h1, hk1⟩
  have hb1 := hk1.below h
  have hlb := h.lt
  obtain ⟨hB, v, hbk, hown, hne⟩ := h1
  rw [Lib.byteCells_length] at hown
  have c0 : w1.cell? ⟨b, 0, none⟩ = some (.pointer (some ⟨b, 0, none⟩)) := by rw [Lib.cell_of_heap hbk]; rfl
  have c1 : w1.cell? ⟨b, 1, none⟩ = some v := by rw [Lib.cell_of_heap hbk]; rfl
  have hBw : B ≤ w1.heap.size := by have := hb1.size; omega
  have hlt : b < w1.heap.size := by have := hb1.size; omega
  clear hlb
  go_wp2_with (at_builtin; refine wpList_append_str_at _ rfl _ _ 65 9 rfl B 5 i0 Tryz.underlying65 Tryz.underlying9 hi hz0 hz1 hz2 _ _ _ rfl hown s rfl hlen hBw ?_)
  intro v' w2 hown' hgrow hat
  have hp := put_bl (l' := l ++ s.data.toList) (w := w) (w0 := w1) hB hbk hk1 (rowOf_at hbk) (by rw [Lib.byteCells_append, ← Lib.strCells_eq]; simpa [data_len] using hown') hne w1 (by simp) (fun k hk => rfl) ⟨rfl, rfl, rfl⟩ hgrow hat
  have hb2 : w2.heap[b]? = some (.cells #[.pointer (some ⟨b, 0, none⟩), v] 101 (0, 0)) := by
    rw [hgrow.block b hlt (fun e => hne e.symm)]
    exact hbk
  have d0 : w2.cell? ⟨b, 0, none⟩ = some (.pointer (some ⟨b, 0, none⟩)) := by rw [Lib.cell_of_heap hb2]; rfl
  have d1 : w2.cell? ⟨b, 1, none⟩ = some v := by rw [Lib.cell_of_heap hb2]; rfl
  have f1 : w2.frozen? ⟨b, 1, none⟩ = false := Lib.frozen_of_heap hb2 1
  obtain ⟨ao, n', cap, rfl⟩ : ∃ ao n' cap, v' = .slice ao n' cap := by
    rcases hown'.2 with ⟨hv, _⟩ | ⟨g, cap, cur, hv, _⟩
    · exact ⟨_, _, _, hv⟩
    · exact ⟨_, _, _, hv⟩
  go_wp2
  go_ret2
  exact ⟨rfl, .inr hp.1, hp.2⟩
end Go.Proofs.YtijgmloodkbljaaGreatDoor

namespace Go.Proofs.YtijgmloodkbljaaGreatDoor
open Go Go.RowKit

set_option maxHeartbeats 1000000 in
theorem f366_16 (w : World) (h : w.cell? ⟨7, 15, none⟩ = some (.int .u8 4)) :
    Calls Tryz.prog 366 #[.int .u64 16] w (Same (.int .i64 4) w) := by
  have h1 : bits .and .u64 16 (IntKind.u64.wrap (-16)) = 16 := by kernel_rfl
  have h2 : IntKind.u64.wrap (16 * 285870213051353865) = 4573923408821661840 := by kernel_rfl
  go_enter Tryz.func366, Tryz.ntmps366
  go_wp2
  go_ret
  exact ⟨rfl, rfl⟩
set_option maxHeartbeats 1000000 in
theorem f354_16 (w : World) :
    Calls Tryz.prog 354 #[.int .i64 16] w (Same (.bool true) w) := by
  have h1 : bits .and .i64 16 15 = 0 := by kernel_rfl
  go_enter Tryz.func354, Tryz.ntmps354
  go_wp2
  go_ret
  exact ⟨rfl, rfl⟩
set_option maxHeartbeats 1000000 in
theorem f355_16 (w : World) (h : w.cell? ⟨7, 15, none⟩ = some (.int .u8 4)) :
    Calls Tryz.prog 355 #[.int .u64 16] w (Same (.int .i64 4) w) := by
  go_enter Tryz.func355, Tryz.ntmps355
  go_wp2_with (go_at_call 366; refine (f366_16 _ h).mono ?_; rintro e w' ⟨rfl, rfl⟩)
  go_ret
  exact ⟨rfl, rfl⟩


theorem dig_hex (n : Nat) (hn : n < 16) (h : n < ({ data := #[48, 49, 50, 51, 52, 53, 54, 55, 56, 57, 97, 98, 99, 100, 101, 102, 103, 104, 105, 106, 107, 108, 109, 110, 111, 112, 113, 114, 115, 116, 117, 118, 119, 120, 121, 122] } : ByteArray).size) : strOfNums [((({ data := #[48, 49, 50, 51, 52, 53, 54, 55, 56, 57, 97, 98, 99, 100, 101, 102, 103, 104, 105, 106, 107, 108, 109, 110, 111, 112, 113, 114, 115, 116, 117, 118, 119, 120, 121, 122] } : ByteArray)[n]'h).toNat : Int)] = ⟨#[hexD n]⟩ := by
  obtain rfl | rfl | rfl | rfl | rfl | rfl | rfl | rfl | rfl | rfl | rfl | rfl | rfl | rfl | rfl | rfl : n = 0 ∨ n = 1 ∨ n = 2 ∨ n = 3 ∨ n = 4 ∨ n = 5 ∨ n = 6 ∨ n = 7 ∨ n = 8 ∨ n = 9 ∨ n = 10 ∨ n = 11 ∨ n = 12 ∨ n = 13 ∨ n = 14 ∨ n = 15 := by omega
  all_goals rfl
theorem zero351 (c : Value) : (Tryz.zeroCells351.setIfInBounds 64 c)[64]? = some c := by
  rw [Array.getElem?_setIfInBounds_self_of_lt (by decide +kernel)]
set_option maxHeartbeats 4000000 in
set_option maxRecDepth 100000 in
theorem f324_16 (n : Nat) (hn : n < 16) (w : World) (h : w.cell? ⟨7, 15, none⟩ = some (.int .u8 4)) (hg : 7 < w.heap.size) :
    Calls Tryz.prog 324 #[.slice none 0 0, .int .u64 n, .int .i64 16, .bool false, .bool false] w (Ret (.tuple #[.slice none 0 0, .string ⟨#[hexD n]⟩]) w) := by
  have hn' : (n : Int) < 16 := by omega
  have hdig := dig_hex n hn
  have key : ∀ c : Int, (convert 65 9 (.slice (some ⟨w.heap.size, 64, none⟩) 1 1)).run Tryz.prog (w.alloc (.cells (Tryz.zeroCells351.setIfInBounds 64 (.int .u8 c)) 351)) = .ok (.string (strOfNums [c])) (w.alloc (.cells (Tryz.zeroCells351.setIfInBounds 64 (.int .u8 c)) 351)) := by
    intro c
    refine run_convert_bytes_arg _ 65 5 Tryz.underlying65 Tryz.underlying5 w.heap.size 64 1 1 [c] rfl ?_ 9 Tryz.underlying9
    intro i hi
    obtain rfl : i = 0 := by omega
    exact (Lib.cell_of_heap (heap_alloc_new w _) 64).trans (zero351 _)
  clear hn
  go_enter Tryz.func324, Tryz.ntmps324
  go_wp2_with (first | (go_at_call 354; refine (f354_16 _).mono ?_; rintro e w' ⟨rfl, rfl⟩) | (go_at_call 355; refine (f355_16 _ ((World.cell?_alloc_lt w _ _ hg).trans h)).mono ?_; rintro e w' ⟨rfl, rfl⟩))
  go_rounds 1
  go_ret2
  exact ⟨rfl, (Below.refl _ _).alloc (Nat.le_refl _) _⟩

set_option maxHeartbeats 1000000 in
theorem f253_16 (n : Nat) (hn : n < 16) (w : World) (h : w.cell? ⟨7, 15, none⟩ = some (.int .u8 4)) (hg : 7 < w.heap.size) :
    Calls Tryz.prog 253 #[.int .i64 n, .int .i64 16] w (Ret (.string ⟨#[hexD n]⟩) w) := by
  have hn' : (n : Int) < 16 := by omega
  go_enter Tryz.func253, Tryz.ntmps253
  go_wp2_with (go_at_call 324; refine (f324_16 n hn _ h hg).mono ?_)
  rintro e w1 ⟨rfl, hb⟩
  go_wp2
  go_ret
  exact ⟨rfl, hb⟩
theorem f189_16 (n : Nat) (hn : n < 16) (w : World) (h : w.cell? ⟨7, 15, none⟩ = some (.int .u8 4)) (hg : 7 < w.heap.size) :
    Calls Tryz.prog 189 #[.int .i64 n, .int .i64 16] w (Ret (.string ⟨#[hexD n]⟩) w) := by
  go_enter Tryz.func189, Tryz.ntmps189
  go_wp2_with (go_at_call 253; refine (f253_16 n hn _ h hg).mono ?_)
  rintro e w1 ⟨rfl, hb⟩
  go_wp2
  go_ret
  exact ⟨rfl, hb⟩
end Go.Proofs.YtijgmloodkbljaaGreatDoor

namespace Go.Proofs.YtijgmloodkbljaaGreatDoor
open Go Go.RowKit

/-- In the middle of a text: a builder at block b, a row of bytes at block c; below the call's start nothing has turned. -/
structure QI (w0 : World) (b c : Nat) (o : Obj) (l : List UInt8) (W : World) : Prop where
  bl : Bl b b l W
  row : W.heap[c]? = some o
  ne : c ≠ b
  apart : rowOf W b ≠ some c
  below : Below w0.heap.size w0 W
  ge : w0.heap.size ≤ b

theorem below_bl {B b : Nat} {l : List UInt8} {W W' : World} (h : Below W.heap.size W W') (hb : Bl B b l W) : Bl B b l W' ∧ rowOf W' b = rowOf W b := by
  have hlt := hb.lt
  have e : W'.heap[b]? = W.heap[b]? := h.block b hlt
  refine ⟨?_, by unfold rowOf; rw [e]⟩
  have hg : W.grownBy W' none := ⟨h.os, h.tape, h.output, h.size, fun k hk _ => h.block k hk⟩
  rcases hb with hb | hb
  · obtain ⟨hB, v, hbk, hown, hne⟩ := hb
    exact .inl ⟨hB, v, e.trans hbk, hown.kept hg (by cases v.ownBlock <;> simp), hne⟩
  · obtain ⟨hB, v, hbk, hown, hne⟩ := hb
    exact .inr ⟨hB, v, e.trans hbk, hown.kept hg (by cases v.ownBlock <;> simp), hne⟩

theorem QI.ret {w0 : World} {b c : Nat} {o : Obj} {l : List UInt8} {W W' : World} (h : QI w0 b c o l W) (hb : Below W.heap.size W W') : QI w0 b c o l W' := by
  obtain ⟨h1, h2⟩ := below_bl hb h.bl
  have hlt : c < W.heap.size := (Array.getElem?_eq_some_iff.1 h.row).1
  exact ⟨h1, (hb.block c hlt).trans h.row, h.ne, by rw [h2]; exact h.apart, h.below.trans (hb.mono h.below.size), h.ge⟩
theorem QI.write {w0 : World} {b c : Nat} {o : Obj} {l l' : List UInt8} {W W' : World} (h : QI w0 b c o l W) (hb : Bl b b l' W') (hk : KeepB b W W') : QI w0 b c o l' W' := by
  have hlt : c < W.heap.size := (Array.getElem?_eq_some_iff.1 h.row).1
  obtain ⟨e, r⟩ := hk.block c hlt h.ne h.apart
  exact ⟨hb, e.trans h.row, h.ne, r, h.below.trans ((hk.below h.bl).mono h.ge), h.ge⟩

/-- The call returns v, and the text is l. -/
def WQ (v : Value) (w0 : World) (b c : Nat) (o : Obj) (l : List UInt8) (e : Ending) (W' : World) : Prop := e = .returned v ∧ QI w0 b c o l W'

theorem f79_q {w0 : World} {b c : Nat} {o : Obj} {l : List UInt8} {W : World} (x : UInt8) (n : Int) (hn : n = x.toNat) (h : QI w0 b c o l W) (hl : l.length ≤ 100000000000000) :
    Calls Tryz.prog 79 #[.pointer (some ⟨b, 0, none⟩), .int .u8 n] W (WQ .nilIface w0 b c o (l ++ [x]) ) := by
  subst hn
  exact (f79_b b b l x W h.bl (by omega)).mono fun e W' ⟨he, h1, h2⟩ => ⟨he, h.write h1 h2⟩
theorem f80_q {w0 : World} {b c : Nat} {o : Obj} {l : List UInt8} {W : World} (s : ByteArray) (h : QI w0 b c o l W) (hl : l.length + s.size ≤ 100000000000000) :
    Calls Tryz.prog 80 #[.pointer (some ⟨b, 0, none⟩), .string s] W (WQ (.tuple #[.int .i64 s.size, .nilIface]) w0 b c o (l ++ s.data.toList)) :=
  (f80_b b b l s W h.bl (by omega)).mono fun e W' ⟨he, h1, h2⟩ => ⟨he, h.write h1 h2⟩
theorem f189_q {w0 : World} {b c : Nat} {o : Obj} {l : List UInt8} {W : World} (m : Int) (n : Nat) (hm : m = n) (hn : n < 16) (h : QI w0 b c o l W) (hd : w0.cell? ⟨7, 15, none⟩ = some (.int .u8 4)) :
    Calls Tryz.prog 189 #[.int .i64 m, .int .i64 16] W (WQ (.string ⟨#[hexD n]⟩) w0 b c o l) := by
  subst hm
  have h7 : 7 < w0.heap.size := World.block_lt_of_cell? w0 _ hd
  exact (f189_16 n hn W ((h.below.cell (p := ⟨7, 15, none⟩) h7).trans hd) (Nat.lt_of_lt_of_le h7 h.below.size)).mono fun e W' ⟨he, h1⟩ => ⟨he, h.ret h1⟩

/-- The call returns v; below w0's end nothing has turned. -/
def Done (v : Value) (w0 : World) (e : Ending) (w' : World) : Prop := e = .returned v ∧ Below w0.heap.size w0 w'
theorem f81_q {w0 : World} {b c : Nat} {o : Obj} {l : List UInt8} {W : World} (h : QI w0 b c o l W) :
    Calls Tryz.prog 81 #[.pointer (some ⟨b, 0, none⟩)] W (Done (.string ⟨l.toArray⟩) w0) :=
  (Tryz.Builder_String_any b b l W h.bl (Nat.le_of_lt h.bl.lt)).mono fun _ _ ⟨he, hb⟩ => ⟨he, h.below.trans (hb.mono h.ge)⟩
theorem hexD_arr (n : Nat) : ((⟨#[hexD n]⟩ : ByteArray)).data.toList = [hexD n] := rfl
theorem qc_length (c : UInt8) : (qc c).length ≤ 4 := by unfold qc; split <;> (try split) <;> simp
theorem flat_length (l : List UInt8) : (l.flatMap qc).length ≤ 4 * l.length := by
  induction l with
  | nil => simp
  | cons c l ih => simp only [List.flatMap_cons, List.length_append, List.length_cons]; have := qc_length c; omega
theorem flat_snoc (s : ByteArray) (k : Nat) (h : k < s.size) : (s.data.toList.take (k + 1)).flatMap qc = (s.data.toList.take k).flatMap qc ++ qc s[k] := by
  rw [List.take_succ_eq_append_getElem (by simpa using h)]
  simp
  rfl
theorem getD_at (s : ByteArray) (k : Nat) (h : k < s.size) : s.data.toList.getD k 0 = s[k] := by
  rw [List.getD_eq_getElem?_getD, List.getElem?_eq_getElem (by simpa using h)]
  rfl

theorem rowOf_lt {B b : Nat} {l : List UInt8} {w : World} (h : Bl B b l w) (k : Nat) (hk : rowOf w b = some k) : k < w.heap.size := by
  obtain ⟨p, v, hB, hbk, ho, _⟩ := h.open_
  rw [rowOf_at hbk] at hk
  rcases ho.2 with ⟨rfl, _⟩ | ⟨g, cap, cur, rfl, hg, hh, _⟩
  · simp [Value.ownBlock] at hk
  · have : g = k := by simpa [Value.ownBlock] using hk
    subst this
    exact (Array.getElem?_eq_some_iff.1 hh).1

/-- The loop begins: the text's bytes lie in a row of their own. -/
theorem QI.start (w w1 : World) (s : ByteArray) (l0 : List UInt8) (h1 : Bl w.heap.size w.heap.size l0 w1) (hb : Below w.heap.size w w1) :
    QI w w.heap.size w1.heap.size (.cells (Lib.bytesCells w1 5 s) 5 ((Lib.bytesCells w1 5 s).size, (Lib.bytesCells w1 5 s).size + 1)) l0 (Lib.bytesWorld w1 5 s) := by
  have hbw : Below w1.heap.size w1 (Lib.bytesWorld w1 5 s) := ⟨rfl, rfl, rfl, by rw [Lib.bytesWorld_size]; omega, fun k hk => Lib.bytesWorld_at_old w1 5 s k hk⟩
  obtain ⟨h2, h3⟩ := below_bl hbw h1
  refine ⟨h2, Lib.bytesWorld_at_new w1 5 s, ?_, ?_, hb.trans (hbw.mono hb.size), Nat.le_refl _⟩
  · have := h1.lt; omega
  · rw [h3]
    intro e
    have := rowOf_lt h1 _ e
    omega
theorem QI.cell {w0 w1 W : World} {b : Nat} {s : ByteArray} {l : List UInt8} (h : QI w0 b w1.heap.size (.cells (Lib.bytesCells w1 5 s) 5 ((Lib.bytesCells w1 5 s).size, (Lib.bytesCells w1 5 s).size + 1)) l W) (k : Nat) (hk : k < s.size) :
    W.cell? ⟨w1.heap.size, k, none⟩ = some (.int .u8 s[k].toNat) := by
  have e : W.heap[w1.heap.size]? = (Lib.bytesWorld w1 5 s).heap[w1.heap.size]? := h.row.trans (Lib.bytesWorld_at_new w1 5 s).symm
  rw [World.cell?_of_block (a := ⟨w1.heap.size, k, none⟩) e, Lib.bytesWorld_cell w1 5 s k hk, getD_at s k hk]

set_option maxHeartbeats 4000000 in
set_option maxRecDepth 100000 in
theorem f225_quote (s : ByteArray) (w : World) (hs : s.size ≤ 1048576) (hd : w.cell? ⟨7, 15, none⟩ = some (.int .u8 4)) :
    Calls Tryz.prog 225 #[.string s] w (Ret (.string ⟨(quoteL s.data.toList).toArray⟩) w) := by
  generalize hR : quoteL s.data.toList = R
  have HR := Lib.hid hR
  clear hR
  have HD := Lib.hid hd
  clear hd
  have hcv := fun W => Lib.run_convert_string_bytes (P := Tryz.prog) W 9 65 5 s Tryz.underlying9 Tryz.underlying65 Tryz.underlying5
  go_enter Tryz.func225, Tryz.ntmps225
  go_wp2_with (go_at_call 79; refine (f79_b w.heap.size w.heap.size [] 39 _ (Bl.fresh w) (by simp)).mono ?_)
  rintro e w1 ⟨rfl, h1, hk1⟩
  have hQ0 := QI.start w w1 s [39] h1 (((Below.refl _ w).alloc (Nat.le_refl _) _).trans (hk1.below (Bl.fresh w)))
  go_wp2
  clear hcv
  generalize hb : w.heap.size = b at *
  generalize hc : w1.heap.size = c at *
  generalize ho : Obj.cells (Lib.bytesCells w1 5 s) 5 ((Lib.bytesCells w1 5 s).size, (Lib.bytesCells w1 5 s).size + 1) = o at *
  have HB := Lib.hid hb
  have HC := Lib.hid hc
  have HO := Lib.hid ho
  clear hb hc ho h1 hk1
  generalize Lib.bytesWorld w1 5 s = W0 at *
  generalize grownCap w1 s.size 0 5 = cap at *
  go_loopw [5, 10] (fun u i wr => ∃ k : Nat, k ≤ s.size ∧ i = .int .i64 k ∧ QI w b c o (39 :: (s.data.toList.take k).flatMap qc) wr) (fun u i _ => s.size - (intOf i).toNat)
  case atStart => exact ⟨0, by omega, rfl, hQ0⟩
  case round =>
    clear hQ0
    obtain ⟨k, hk, rfl, hQ⟩ := hrel
    have hfl := flat_length (s.data.toList.take k)
    have htl : (s.data.toList.take k).length ≤ 1048576 := by rw [List.length_take, data_len]; omega
    have hll : (39 :: (s.data.toList.take k).flatMap qc).length ≤ 5000000 := by rw [List.length_cons]; omega
    clear hfl htl
    by_cases hlt : k < s.size
    · have hcell : wr.cell? ⟨c, k, none⟩ = some (.int .u8 s[k].toNat) := by
        have h := hQ
        rw [← HC.out, ← HO.out] at h
        rw [← HC.out]
        exact h.cell k hlt
      have hsn := Lib.hid (flat_snoc s k hlt)
      generalize hx : s[k] = x at *
      have hx8 := x.toNat_lt
      generalize hL : 39 :: (s.data.toList.take k).flatMap qc = L at *
      have HL := Lib.hid hL
      clear hx hL
      by_cases hq : x.toNat < 32 ∨ 126 < x.toNat
      · have hqc : Hid (qc x = [92, 120, hexD (x.toNat / 16), hexD (x.toNat % 16)]) := by unfold Hid qc; rw [if_pos hq]
        by_cases h32 : (x.toNat : Int) < 32
        · clear hq
          go_wp2_with (go_at_call 80; refine (f80_q ⟨#[92, 120]⟩ hQ (by show L.length + 2 ≤ _; omega)).mono ?_)
          rintro e W1 ⟨rfl, hQ1⟩
          go_wp2_with fail
          refine (f189_q _ (x.toNat / 16) (by omega) (by omega) hQ1 HD.out).mono ?_
          rintro e W2 ⟨rfl, hQ2⟩
          go_wp2_with fail
          refine (f80_q _ hQ2 (by simp [ByteArray.size]; omega)).mono ?_
          rintro e W3 ⟨rfl, hQ3⟩
          go_wp2_with fail
          refine (f189_q _ (x.toNat % 16) (by omega) (by omega) hQ3 HD.out).mono ?_
          rintro e W4 ⟨rfl, hQ4⟩
          go_wp2_with fail
          refine (f80_q _ hQ4 (by simp [ByteArray.size]; omega)).mono ?_
          rintro e W5 ⟨rfl, hQ5⟩
          go_wp2_with fail
          go_roundw
          case rel =>
            refine ⟨k + 1, by omega, by go_num, ?_⟩
            rw [hsn.out, hqc.out, ← List.cons_append, HL.out]
            simpa using hQ5
          case measure => simp [intOf]; omega
        · have h126 : 126 < (x.toNat : Int) := by omega
          have h32' : 32 ≤ (x.toNat : Int) := by omega
          clear hq h32
          go_wp2_with (go_at_call 80; refine (f80_q ⟨#[92, 120]⟩ hQ (by show L.length + 2 ≤ _; omega)).mono ?_)
          rintro e W1 ⟨rfl, hQ1⟩
          go_wp2_with fail
          refine (f189_q _ (x.toNat / 16) (by omega) (by omega) hQ1 HD.out).mono ?_
          rintro e W2 ⟨rfl, hQ2⟩
          go_wp2_with fail
          refine (f80_q _ hQ2 (by simp [ByteArray.size]; omega)).mono ?_
          rintro e W3 ⟨rfl, hQ3⟩
          go_wp2_with fail
          refine (f189_q _ (x.toNat % 16) (by omega) (by omega) hQ3 HD.out).mono ?_
          rintro e W4 ⟨rfl, hQ4⟩
          go_wp2_with fail
          refine (f80_q _ hQ4 (by simp [ByteArray.size]; omega)).mono ?_
          rintro e W5 ⟨rfl, hQ5⟩
          go_wp2_with fail
          go_roundw
          case rel =>
            refine ⟨k + 1, by omega, by go_num, ?_⟩
            rw [hsn.out, hqc.out, ← List.cons_append, HL.out]
            simpa using hQ5
          case measure => simp [intOf]; omega
      · have h32 : 32 ≤ (x.toNat : Int) := by omega
        have h126 : (x.toNat : Int) ≤ 126 := by omega
        by_cases h39 : x = 39 ∨ x = 92
        · have hqc : Hid (qc x = [92, x]) := by unfold Hid qc; rw [if_neg hq, if_pos h39]
          clear hq
          have hor : ((x.toNat : Int) == 39) = true ∨ (((x.toNat : Int) == 39) = false ∧ ((x.toNat : Int) == 92) = true) := by
            rcases h39 with rfl | rfl
            · exact .inl rfl
            · exact .inr ⟨rfl, rfl⟩
          clear h39
          rcases hor with e1 | ⟨e1, e2⟩
          all_goals
            go_wp2_with fail
            refine (f79_q 92 _ rfl hQ (by omega)).mono ?_
            rintro e W1 ⟨rfl, hQ1⟩
            go_wp2_with fail
            refine (f79_q x _ rfl hQ1 (by simp; omega)).mono ?_
            rintro e W2 ⟨rfl, hQ2⟩
            go_wp2_with fail
            go_roundw
            case rel =>
              refine ⟨k + 1, by omega, by go_num, ?_⟩
              rw [hsn.out, hqc.out, ← List.cons_append, HL.out]
              simpa using hQ2
            case measure => simp [intOf]; omega
        · have hqc : Hid (qc x = [x]) := by unfold Hid qc; rw [if_neg hq, if_neg h39]
          have e1 : ((x.toNat : Int) == 39) = false := by
            simp only [beq_eq_false_iff_ne, ne_eq]; intro h; exact h39 (.inl (UInt8.toNat_inj.1 (by simp; omega)))
          have e2 : ((x.toNat : Int) == 92) = false := by
            simp only [beq_eq_false_iff_ne, ne_eq]; intro h; exact h39 (.inr (UInt8.toNat_inj.1 (by simp; omega)))
          clear hq h39
          go_wp2_with fail
          refine (f79_q x _ rfl hQ (by omega)).mono ?_
          rintro e W1 ⟨rfl, hQ1⟩
          go_wp2_with fail
          go_roundw
          case rel =>
            refine ⟨k + 1, by omega, by go_num, ?_⟩
            rw [hsn.out, hqc.out, ← List.cons_append, HL.out]
            exact hQ1
          case measure => simp [intOf]; omega
    · have hk2 : k = s.size := by omega
      have hL : Hid ((39 :: (s.data.toList.take k).flatMap qc) ++ [39] = R) := by
        unfold Hid
        rw [← HR.out, hk2, List.take_of_length_le (by simp)]
        rfl
      clear hk2
      go_wp2_with fail
      refine (f79_q 39 _ rfl hQ (by omega)).mono ?_
      rintro e W1 ⟨rfl, hQ1⟩
      rw [hL.out] at hQ1
      go_wp2_with (go_at_call 81; refine (f81_q hQ1).mono ?_)
      rintro e W2 ⟨rfl, hb2⟩
      go_wp2
      go_ret
      exact ⟨rfl, hb2⟩
end Go.Proofs.YtijgmloodkbljaaGreatDoor
