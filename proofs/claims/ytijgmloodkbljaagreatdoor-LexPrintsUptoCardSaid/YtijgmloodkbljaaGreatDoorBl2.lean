import Derived.Test.YtijgmloodkbljaaGreatDoorBld
import Derived.Test.YtijgmloodkbljaaGreatDoorTok
import Derived.Maps.AppendAt
import Derived.Lib.AppendStr
import Derived.Lib.UnsafeStr
namespace Go.Proofs.YtijgmloodkbljaaGreatDoor
open Go Go.RowKit

/-- The block in which the buffer of the builder at block b lies. -/
def rowOf (w : World) (b : Nat) : Option Nat :=
  match w.heap[b]? with
  | some (.cells cs _ _) => cs[1]?.bind Value.ownBlock
  | _ => none

/-- What a writer of the builder at block b leaves as it was: every block but b and the buffer's. -/
structure KeepB (b : Nat) (w w' : World) : Prop where
  os : w'.os = w.os
  tape : w'.tape = w.tape
  output : w'.output = w.output
  size : w.heap.size ≤ w'.heap.size
  block : ∀ k, k < w.heap.size → k ≠ b → rowOf w b ≠ some k → w'.heap[k]? = w.heap[k]? ∧ rowOf w' b ≠ some k

theorem KeepB.refl (b : Nat) (w : World) : KeepB b w w := ⟨rfl, rfl, rfl, Nat.le_refl _, fun _ _ _ h => ⟨rfl, h⟩⟩
theorem KeepB.trans {b : Nat} {w w1 w2 : World} (h : KeepB b w w1) (k : KeepB b w1 w2) : KeepB b w w2 :=
  ⟨k.os.trans h.os, k.tape.trans h.tape, k.output.trans h.output, Nat.le_trans h.size k.size, fun i hi hb hr =>
    let ⟨e1, r1⟩ := h.block i hi hb hr
    let ⟨e2, r2⟩ := k.block i (Nat.lt_of_lt_of_le hi h.size) hb r1
    ⟨e2.trans e1, r2⟩⟩

/-- A builder at block b that holds the bytes l; its buffer lies from block B on. -/
def Bl (B b : Nat) (l : List UInt8) (w : World) : Prop := Lib.IsBuilder 101 5 B b (Lib.byteCells l) w

theorem rowOf_at {b : Nat} {p v : Value} {w : World} (hb : w.heap[b]? = some (.cells #[p, v] 101 (0, 0))) : rowOf w b = v.ownBlock := by
  unfold rowOf; rw [hb]; rfl
theorem Bl.open_ {B b : Nat} {l : List UInt8} {w : World} (h : Bl B b l w) : ∃ p v, B ≤ b ∧ w.heap[b]? = some (.cells #[p, v] 101 (0, 0)) ∧ w.ownsRow B 5 1 v l.length (Lib.byteCells l) ∧ v.ownBlock ≠ some b := by
  rcases h with h | h
  all_goals
    obtain ⟨hB, v, hb, ho, hn⟩ := h
    exact ⟨_, v, hB, hb, by rw [Lib.byteCells_length] at ho; exact ho, hn⟩
theorem Bl.lt {B b : Nat} {l : List UInt8} {w : World} (h : Bl B b l w) : b < w.heap.size := by
  rcases h with h | h <;> exact h.lt
/-- Below B a builder's writer keeps all. -/
theorem KeepB.below {B b : Nat} {l : List UInt8} {w w' : World} (h : KeepB b w w') (hb : Bl B b l w) : Below B w w' := by
  obtain ⟨p, v, hB, hbk, ho, _⟩ := hb.open_
  refine ⟨h.os, h.tape, h.output, h.size, fun k hk => ?_⟩
  rcases Nat.lt_or_ge k w.heap.size with hlt | hge
  · refine (h.block k hlt (by omega) ?_).1
    rw [rowOf_at hbk]
    intro e
    rcases ho.2 with ⟨rfl, _⟩ | ⟨g, cap, cur, rfl, hg, _⟩
    · simp [Value.ownBlock] at e
    · simp [Value.ownBlock] at e; omega
  · have := hb.lt
    omega
theorem Bl.fresh (w : World) : Bl w.heap.size w.heap.size [] (w.alloc (.cells #[.pointer none, .slice none 0 0] 101)) := Lib.fresh_isBuilder 101 5 w

theorem f159_b (B b : Nat) (l : List UInt8) (w : World) (h : Bl B b l w) :
    Calls Tryz.prog 159 #[.pointer (some ⟨b, 0, none⟩)] w fun e w' => e = .returned (.tuple #[]) ∧ (Lib.BuilderAt 101 5 B b (.pointer (some ⟨b, 0, none⟩)) (Lib.byteCells l) w' ∧ KeepB b w w') := by
  rcases h with h | h
  · refine (f159_fresh b w h.cell0 h.shape h.frozen0).mono ?_
    rintro e w' ⟨rfl, rfl⟩
    obtain ⟨hB, v, hbk, _⟩ := id h
    refine ⟨rfl, h.used _, ⟨rfl, rfl, rfl, by simp [World.setCell], fun k hk hkb hr => ⟨Below.heap_setCell _ _ _ _ (by exact hkb), ?_⟩⟩⟩
    obtain ⟨_, v', hbk', _⟩ := h.used (.pointer (some ⟨b, 0, none⟩))
    rw [rowOf_at hbk] at hr
    rw [rowOf_at hbk']
    have : v' = v := by
      have h2 : (w.setCell ⟨b, 0, none⟩ (.pointer (some ⟨b, 0, none⟩))).heap[b]? = some (.cells #[.pointer (some ⟨b, 0, none⟩), v] 101 (0, 0)) := by
        simp [World.setCell, Array.getElem?_modify, hbk]
      rw [h2] at hbk'
      simp at hbk'
      exact hbk'.symm
    rw [this]; exact hr
  · refine (f159_used b w h.cell0).mono ?_
    rintro e w' ⟨rfl, rfl⟩
    exact ⟨rfl, h, KeepB.refl _ _⟩

/-- append(v, s...) on a row of the call's own: where the new slice lies. -/
theorem append_str_at {P : Program} (w : World) (base : Nat) (t u ty e : TypeId) (i : TypeInfo) (ht : P.underlying t = some (.slice e)) (hu : P.underlying u = some .string) (hi : P.info? e = some i) (hz : i.zero = some (.int .u8 0))
    (hsize : i.size = 1) (hby : i.bytes = 1) (v : Value) (n : Nat) (xs : List Value) (hown : w.ownsRow base e 1 v n xs) (s : ByteArray)
    (hbytes : n + s.size ≤ 140737488355328) (hbase : base ≤ w.heap.size) :
    ∃ v' w', (Builtin.append_ #[t, u] ty #[v, .string s]).run P w = .ok v' w' ∧ w'.ownsRow base e 1 v' (n + s.size) (xs ++ Lib.strCells s) ∧ w.grownBy w' v.ownBlock ∧
      (v'.ownBlock = v.ownBlock ∨ v'.ownBlock = some w.heap.size) := by
  obtain ⟨v', w', hr, h2, h3, _⟩ := Lib.run_append_own_string (P := P) w base t u ty e i ht hu hi hz hsize hby v n xs hown s (by unfold maxLen; omega) hbytes hbase
  refine ⟨v', w', hr, h2, h3, ?_⟩
  rcases hown.2 with ⟨rfl, rfl⟩ | ⟨g, cap, cur, rfl, hbg, hg, hnc, hcm, hcs, htake⟩
  · rcases Nat.eq_zero_or_pos s.size with h0 | h0
    · rcases h2.2 with ⟨rfl, _⟩ | ⟨g, cap, cur, rfl, _, _, _, _, _, _⟩
      · exact .inl rfl
      · -- nothing is appended to nil: nil
        have hf := Lib.run_firstCells_string (P := P) w 1 s
        rw [h0] at hf
        have : (Builtin.append_ #[t, u] ty #[.slice none 0 0, .string s]).run P w = .ok (.slice none 0 0) w := by
          simp [Builtin.append_, run_underlying ht, run_underlying hu, sizeOf, typeInfo, hi, hsize, Builtin.lenOf, h0, hf]
        rw [hr] at this
        simp at this
    · have := run_append_nil_string (P := P) w t u ty e i (.int .u8 0) ht hu hi hz s h0 (by omega) (by rw [hby]; omega)
      rw [hr] at this
      simp only [Result.ok.injEq] at this
      exact .inr (by rw [this.1]; rfl)
  · by_cases hroom : n + s.size ≤ cap
    · have := Lib.run_append_room_string (P := P) w t u ty e i ht hu hi hsize g n cap cur hg s hroom (by omega)
      rw [hr] at this
      simp only [Result.ok.injEq] at this
      exact .inl (by rw [this.1]; rfl)
    · have := Lib.run_append_grow_string (P := P) w t u ty e i (.int .u8 0) ht hu hi hz ⟨g, 0, none⟩ n cap xs (by rw [hsize]; exact hown.1) (hown.cells (g := g) rfl) s (by omega) (by omega) (growslice_fits (by omega) (by rw [hby]; omega))
      rw [hr] at this
      simp only [Result.ok.injEq] at this
      exact .inr (by rw [this.1]; rfl)

theorem wpList_append_str_at {P : Program} {ops : Array Oper} {rest : List Oper} {o : Oper} {a : Act} {Q : Exit → Act → World → Prop} (w : World) (hgd : o.guard = none) (sl x : Operand) (t u : TypeId)
    (ho : o.op = .call { callee := .builtin .append, args := #[sl, x], argTypes := #[t, u] })
    (base : Nat) (e : TypeId) (i : TypeInfo) (ht : P.underlying t = some (.slice e)) (hu : P.underlying u = some .string) (hi : P.info? e = some i) (hz : i.zero = some (.int .u8 0))
    (hsize : i.size = 1) (hby : i.bytes = 1)
    (v : Value) (n : Nat) (xs : List Value) (hs : a.eval sl = v) (hown : w.ownsRow base e 1 v n xs) (s : ByteArray) (hx : a.eval x = .string s)
    (hbytes : n + s.size ≤ 140737488355328) (hbase : base ≤ w.heap.size)
    (h : ∀ v' w', w'.ownsRow base e 1 v' (n + s.size) (xs ++ Lib.strCells s) → w.grownBy w' v.ownBlock → (v'.ownBlock = v.ownBlock ∨ v'.ownBlock = some w.heap.size) → wpList P ops Q rest (a.put o.dst v') w') : wpList P ops Q (o :: rest) a w := by
  refine wpList_plain hgd fun K hK => ?_
  obtain ⟨v', w', hr, h2, h3, h4⟩ := append_str_at (P := P) w base t u o.type e i ht hu hi hz hsize hby v n xs hown s hbytes hbase
  unfold Oper.wp execOp
  simp only [ho, resolve, invoke, builtin, Sem.run_bind, Sem.run_pure, Result.andThen_ok, List.map_toArray, List.map_cons, List.map_nil, hs, hx, hr]
  exact hK _ _ (h v' w' h2 h3 h4)

/-- What stands behind a write: the buffer laid into the builder. -/
theorem put_bl {B b : Nat} {p v v' : Value} {l' : List UInt8} {w w0 w2 : World} (hB : B ≤ b) (h0 : w0.heap[b]? = some (.cells #[p, v] 101 (0, 0))) (hk : KeepB b w w0) (hrow : rowOf w0 b = v.ownBlock)
    (hown : w2.ownsRow B 5 1 v' l'.length (Lib.byteCells l')) (hne : v.ownBlock ≠ some b) (W : World) (hW : w0.heap.size ≤ W.heap.size) (hWb : ∀ k, k < w0.heap.size → W.heap[k]? = w0.heap[k]?) (hWs : W.os = w0.os ∧ W.tape = w0.tape ∧ W.output = w0.output)
    (hg : W.grownBy w2 v.ownBlock) (hat : v'.ownBlock = v.ownBlock ∨ v'.ownBlock = some W.heap.size) :
    Lib.BuilderAt 101 5 B b p (Lib.byteCells l') (w2.setCell ⟨b, 1, none⟩ v') ∧ KeepB b w (w2.setCell ⟨b, 1, none⟩ v') := by
  have hlt : b < w0.heap.size := (Array.getElem?_eq_some_iff.1 h0).1
  have hb2 : w2.heap[b]? = some (.cells #[p, v] 101 (0, 0)) := by
    rw [hg.block b (by omega) (fun e => hne e.symm), hWb b hlt]
    exact h0
  have hput := Lib.BuilderAt.put (T := 101) (e := 5) hB hb2 (bs' := Lib.byteCells l') (by rw [Lib.byteCells_length]; exact hown) (by decide)
  refine ⟨hput, hk.trans ⟨?_, ?_, ?_, ?_, fun k hkl hkb hr => ?_⟩⟩
  · exact hg.os.trans hWs.1
  · exact hg.tape.trans hWs.2.1
  · exact hg.output.trans hWs.2.2
  · have := hg.size
    simp [World.setCell]
    omega
  · rw [hrow] at hr
    refine ⟨?_, ?_⟩
    · rw [Below.heap_setCell _ _ _ _ (by exact hkb), hg.block k (by omega) (fun e => hr e.symm), hWb k hkl]
    · have h3 : (w2.setCell ⟨b, 1, none⟩ v').heap[b]? = some (.cells #[p, v'] 101 (0, 0)) := by
        simp [World.setCell, Array.getElem?_modify, hb2]
      rw [rowOf_at h3]
      rcases hat with e | e
      · rw [e]; exact hr
      · rw [e]
        intro h4
        simp at h4
        omega

set_option maxHeartbeats 2000000 in
set_option maxRecDepth 100000 in
theorem f79_b (B b : Nat) (l : List UInt8) (c : UInt8) (w : World) (h : Bl B b l w) (hlen : l.length + 1 ≤ 140737488355328) :
    Calls Tryz.prog 79 #[.pointer (some ⟨b, 0, none⟩), .int .u8 c.toNat] w fun e w' => e = .returned .nilIface ∧ (Bl B b (l ++ [c]) w' ∧ KeepB b w w') := by
  obtain ⟨i0, hi, hz0, hz1, hz2⟩ := info_parts infoByte
  go_enter Tryz.func79, Tryz.ntmps79
  go_wp2_with (go_at_call 159; refine (f159_b B b l _ h).mono ?_)
  rintro e w1 ⟨rfl, h1, hk1⟩
  have hb1 := hk1.below h
  have hlb := h.lt
  obtain ⟨hB, v, hbk, hown, hne⟩ := h1
  rw [Lib.byteCells_length] at hown
  have c0 : w1.cell? ⟨b, 0, none⟩ = some (.pointer (some ⟨b, 0, none⟩)) := by rw [Lib.cell_of_heap hbk]; rfl
  have c1 : w1.cell? ⟨b, 1, none⟩ = some v := by rw [Lib.cell_of_heap hbk]; rfl
  have hBw : B ≤ w1.heap.size := by have := hb1.size; omega
  have hlt : b < w1.heap.size := by have := hb1.size; omega
  clear hlb
  go_wp2_with (at_builtin; refine wpList_append_own_at _ rfl _ _ 65 rfl B 5 i0 (.int .u8 0) 1 1 Tryz.underlying65 hi hz0 hz1 hz2 rfl (by decide) _ _ _ rfl (hown.alloc _) ⟨w1.heap.size, 0, none⟩ 1 1 [.int .u8 c.toNat] rfl rfl ?c1 ?c2 ?c3 ?c4 ?c5 ?_)
  case c1 =>
    intro j u hj
    match j, hj with
    | 0, hj => simp at hj; subst hj; simp [Addr.add]
  case c2 => intro u hu; simp at hu; subst hu; rfl
  case c3 => unfold maxLen; omega
  case c4 => omega
  case c5 => simp; omega
  intro v' w2 hown' hgrow _ hat
  obtain ⟨g, cap, rfl⟩ : ∃ g cap, v' = .slice (some ⟨g, 0, none⟩) (l.length + 1) cap := by
    rcases hown'.2 with ⟨_, h0⟩ | ⟨g, cap, cur, hv, _⟩
    · omega
    · exact ⟨g, cap, hv⟩
  have hp := put_bl (l' := l ++ [c]) (w := w) (w0 := w1) hB hbk hk1 (rowOf_at hbk) (by rw [Lib.byteCells_append]; simpa [Lib.byteCells] using hown') hne (w1.alloc (.cells #[.int .u8 c.toNat] 5)) (by simp) (fun k hk => Lib.alloc_old w1 _ k hk) ⟨rfl, rfl, rfl⟩ hgrow (by rw [World.size_alloc]; exact hat)
  have hb2 : w2.heap[b]? = some (.cells #[.pointer (some ⟨b, 0, none⟩), v] 101 (0, 0)) := by
    rw [hgrow.block b (by simp; omega) (fun e => hne e.symm), Lib.alloc_old w1 _ b hlt]
    exact hbk
  have d0 : w2.cell? ⟨b, 0, none⟩ = some (.pointer (some ⟨b, 0, none⟩)) := by rw [Lib.cell_of_heap hb2]; rfl
  have d1 : w2.cell? ⟨b, 1, none⟩ = some v := by rw [Lib.cell_of_heap hb2]; rfl
  have f1 : w2.frozen? ⟨b, 1, none⟩ = false := Lib.frozen_of_heap hb2 1
  go_wp2
  go_ret
  exact ⟨rfl, .inr hp.1, hp.2⟩

set_option maxHeartbeats 2000000 in
set_option maxRecDepth 100000 in
theorem f80_b (B b : Nat) (l : List UInt8) (s : ByteArray) (w : World) (h : Bl B b l w) (hlen : l.length + s.size ≤ 140737488355328) :
    Calls Tryz.prog 80 #[.pointer (some ⟨b, 0, none⟩), .string s] w fun e w' => e = .returned (.tuple #[.int .i64 s.size, .nilIface]) ∧ (Bl B b (l ++ s.data.toList) w' ∧ KeepB b w w') := by
  obtain ⟨i0, hi, hz0, hz1, hz2⟩ := info_parts infoByte
  go_enter Tryz.func80, Tryz.ntmps80
  go_wp2_with (go_at_call 159; refine (f159_b B b l _ h).mono ?_)
  rintro e w1 ⟨rfl, h1, hk1⟩
  have hb1 := hk1.below h
  have hlb := h.lt
  obtain ⟨hB, v, hbk, hown, hne⟩ := h1
  rw [Lib.byteCells_length] at hown
  have c0 : w1.cell? ⟨b, 0, none⟩ = some (.pointer (some ⟨b, 0, none⟩)) := by rw [Lib.cell_of_heap hbk]; rfl
  have c1 : w1.cell? ⟨b, 1, none⟩ = some v := by rw [Lib.cell_of_heap hbk]; rfl
  have hBw : B ≤ w1.heap.size := by have := hb1.size; omega
  have hlt : b < w1.heap.size := by have := hb1.size; omega
  clear hlb
  go_wp2_with (at_builtin; refine wpList_append_str_at _ rfl _ _ 65 9 rfl B 5 i0 Tryz.underlying65 Tryz.underlying9 hi hz0 hz1 hz2 _ _ _ rfl hown s rfl hlen hBw ?_)
  intro v' w2 hown' hgrow hat
  have hp := put_bl (l' := l ++ s.data.toList) (w := w) (w0 := w1) hB hbk hk1 (rowOf_at hbk) (by rw [Lib.byteCells_append, ← Lib.strCells_eq]; simpa [data_len] using hown') hne w1 (by simp) (fun k hk => rfl) ⟨rfl, rfl, rfl⟩ hgrow hat
  have hb2 : w2.heap[b]? = some (.cells #[.pointer (some ⟨b, 0, none⟩), v] 101 (0, 0)) := by
    rw [hgrow.block b hlt (fun e => hne e.symm)]
    exact hbk
  have d0 : w2.cell? ⟨b, 0, none⟩ = some (.pointer (some ⟨b, 0, none⟩)) := by rw [Lib.cell_of_heap hb2]; rfl
  have d1 : w2.cell? ⟨b, 1, none⟩ = some v := by rw [Lib.cell_of_heap hb2]; rfl
  have f1 : w2.frozen? ⟨b, 1, none⟩ = false := Lib.frozen_of_heap hb2 1
  obtain ⟨ao, n', cap, rfl⟩ : ∃ ao n' cap, v' = .slice ao n' cap := by
    rcases hown'.2 with ⟨hv, _⟩ | ⟨g, cap, cur, hv, _⟩
    · exact ⟨_, _, _, hv⟩
    · exact ⟨_, _, _, hv⟩
  go_wp2
  go_ret2
  exact ⟨rfl, .inr hp.1, hp.2⟩
end Go.Proofs.YtijgmloodkbljaaGreatDoor
