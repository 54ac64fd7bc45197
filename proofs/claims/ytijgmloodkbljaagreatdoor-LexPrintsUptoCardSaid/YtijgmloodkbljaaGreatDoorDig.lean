import Derived.Test.YtijgmloodkbljaaGreatDoorTxt
import Derived.Laws.OwnMore
import Derived.Maps.AppendAt
namespace Go.Proofs.YtijgmloodkbljaaGreatDoor
open Go Go.RowKit

def decN (u : Nat) : List Nat := if _h : u < 10 then [u] else decN (u / 10) ++ [u % 10]
termination_by u
decreasing_by omega
def ch (k : Nat) : UInt8 := UInt8.ofNat (48 + k)
theorem decDigits_decN (u : Nat) : Lib.decDigits u = (decN u).map ch := by
  induction u using Nat.strongRecOn with
  | _ u ih =>
    by_cases h : u < 10
    · rw [Lib.decDigits, dif_pos h, decN, dif_pos h]; rfl
    · rw [Lib.decDigits, dif_neg h, decN, dif_neg h, ih (u / 10) (by omega), List.map_append]; rfl
def headN (u : Nat) : List Nat := if u = 0 then [] else decN u
theorem decN_step (u : Nat) : decN u = headN (u / 10) ++ [u % 10] := by
  rw [decN]
  by_cases h : u < 10
  · rw [dif_pos h]
    have : u / 10 = 0 := by omega
    rw [this]; simp [headN]; omega
  · rw [dif_neg h, headN, if_neg (by omega)]
theorem headN_cons (x : List Nat) (m : Nat) (D : List Nat) (h : x = headN (m / 10) ++ (m % 10 :: D)) : x = headN (m / 10) ++ (m % 10 :: D) := h
theorem decN_lt (u : Nat) : ∀ k ∈ decN u, k < 10 := by
  induction u using Nat.strongRecOn with
  | _ u ih =>
    intro k hk
    rw [decN] at hk
    by_cases h : u < 10
    · rw [dif_pos h] at hk; simp at hk; omega
    · rw [dif_neg h] at hk
      simp only [List.mem_append, List.mem_singleton] at hk
      rcases hk with hk | hk
      · exact ih (u / 10) (by omega) k hk
      · omega
theorem decN_len (u n : Nat) (h : u < 10 ^ n) (hn : 0 < n) : (decN u).length ≤ n := by
  induction n generalizing u with
  | zero => omega
  | succ n ih =>
    rw [decN]
    by_cases h10 : u < 10
    · rw [dif_pos h10]; simp
    · rw [dif_neg h10]
      simp only [List.length_append, List.length_singleton]
      have : u / 10 < 10 ^ n := by rw [Nat.pow_succ] at h; omega
      have hn0 : 0 < n := by
        rcases Nat.eq_zero_or_pos n with rfl | h1
        · simp at h; omega
        · exact h1
      have := ih (u / 10) this hn0
      omega

/-- The slice v is a row of the call's own (from block B on) that holds the cells xs (whole numbers). -/
def OwnI (B : Nat) (v : Value) (xs : List Value) (W : World) : Prop := W.ownsRow B 3 1 v xs.length xs

theorem infoInt : (Tryz.prog.info? 3).map (fun i => (i.zero, i.size, i.bytes)) = some (some (.int .i64 0), 1, 8) := by kernel_rfl

theorem OwnI.lit (w : World) (x : Value) : OwnI w.heap.size (.slice (some ⟨w.heap.size, 0, none⟩) 1 1) [x] (w.alloc (.cells #[x] 3)) :=
  ⟨rfl, .inr ⟨w.heap.size, 1, #[x], rfl, Nat.le_refl _, heap_alloc_new w _, Nat.le_refl _, by unfold maxLen; omega, rfl, rfl⟩⟩

theorem run_pre {W0 W : World} {B : Nat} (ty : TypeId) {v : Value} {xs : List Value} (y : Value) (hy : y.oneCell' = true) (hxs : ∀ u ∈ xs, u.oneCell' = true) (hown : OwnI B v xs W) (hB : Below B W0 W) (hlen : xs.length ≤ 1000000) (hBW : B ≤ W.heap.size) :
    ∃ v' w', (Builtin.append_ #[220, 220] ty #[.slice (some ⟨W.heap.size, 0, none⟩) 1 1, v]).run Tryz.prog (W.alloc (.cells #[y] 3)) = .ok v' w' ∧ OwnI B v' (y :: xs) w' ∧ Below B W0 w' := by
  obtain ⟨i0, hi, hz0, hz1, hz2⟩ := info_parts infoInt
  have hl' : (W.alloc (.cells #[y] 3)).ownsRow B 3 1 (.slice (some ⟨W.heap.size, 0, none⟩) 1 1) 1 [y] := ⟨rfl, .inr ⟨W.heap.size, 1, #[y], rfl, hBW, heap_alloc_new W _, Nat.le_refl _, by unfold maxLen; omega, rfl, rfl⟩⟩
  have hb2 : Below B W0 (W.alloc (.cells #[y] 3)) := hB.alloc hBW _
  rcases hown.2 with ⟨rfl, h0⟩ | ⟨g, cap, cur, rfl, hgB, hg, hnc, _⟩
  · obtain rfl : xs = [] := List.eq_nil_of_length_eq_zero h0
    refine ⟨_, _, run_append_owned_none (P := Tryz.prog) _ B 220 ty 3 i0 1 Tryz.underlying220 hi _ 1 [y] hl', hl', hb2⟩
  · obtain ⟨v', w', hr, hown', hg', _⟩ := run_append_own (P := Tryz.prog) (W.alloc (.cells #[y] 3)) B 220 ty 3 i0 (.int .i64 0) 1 8 Tryz.underlying220 hi hz0 hz1 hz2 rfl (by decide) _ 1 [y] hl' ⟨g, 0, none⟩ xs.length cap xs
      (by simp) (by
        intro j u hu
        have : (⟨g, 0, none⟩ : Addr).add j = ⟨g, 0 + j, none⟩ := by unfold Addr.add; split <;> simp_all
        have hc := (World.ownsRow.alloc hown (.cells #[y] 3)).cells (g := g) rfl j u hu
        exact hc) hxs (by unfold maxLen; omega) (by omega) (by simp; omega)
    refine ⟨v', w', hr, by unfold OwnI; rw [List.length_cons, Nat.add_comm]; exact hown', hb2.grown hg' (by simp; omega) ?_⟩
    intro k hk
    simp [Value.ownBlock] at hk
    omega

theorem wp_pre {ops : Array Oper} {rest : List Oper} {o : Oper} {a : Act} {Q : Exit → Act → World → Prop} {W0 W : World} {B : Nat} (hgd : o.guard = none) (s x : Operand)
    (ho : o.op = .call { callee := .builtin .append, args := #[s, x], argTypes := #[220, 220] })
    {v : Value} {xs : List Value} (y : Value) (hs : a.eval s = .slice (some ⟨W.heap.size, 0, none⟩) 1 1) (hx : a.eval x = v) (hy : y.oneCell' = true) (hxs : ∀ u ∈ xs, u.oneCell' = true) (hown : OwnI B v xs W) (hB : Below B W0 W) (hlen : xs.length ≤ 1000000) (hBW : B ≤ W.heap.size)
    (h : ∀ v' w', OwnI B v' (y :: xs) w' → Below B W0 w' → wpList Tryz.prog ops Q rest (a.put o.dst v') w') : wpList Tryz.prog ops Q (o :: rest) a (W.alloc (.cells #[y] 3)) := by
  refine wpList_plain hgd fun K hK => ?_
  obtain ⟨v', w', hr, h2, h3⟩ := run_pre o.type y hy hxs hown hB hlen hBW
  unfold Oper.wp execOp
  simp only [ho, resolve, invoke, builtin, Sem.run_bind, Sem.run_pure, Result.andThen_ok, List.map_toArray, List.map_cons, List.map_nil, hs, hx, hr]
  exact hK _ _ (h v' w' h2 h3)

theorem f254_bare (n : Int) (hn : I64n n) (w : World) : Calls Tryz.prog 254 #[.int .i64 n] w (Same (.int .u64 n.natAbs) w) := by
  obtain ⟨h1, h2⟩ := hn
  by_cases h : n < 0
  · have e1 : IntKind.u64.wrap (0 - IntKind.u64.wrap n) = n.natAbs := by
      show (0 - n % 18446744073709551616) % 18446744073709551616 = n.natAbs
      omega
    have e2 : IntKind.u64.wrap (-IntKind.u64.wrap n) = n.natAbs := by
      show (-(n % 18446744073709551616)) % 18446744073709551616 = n.natAbs
      omega
    go_enter Tryz.func254, Tryz.ntmps254
    go_wp2
    go_ret
    exact ⟨rfl, rfl⟩
  · have h' : 0 ≤ n := by omega
    obtain ⟨m, rfl⟩ : ∃ m : Nat, n = m := ⟨n.toNat, by omega⟩
    have e1 : IntKind.u64.wrap (m : Int) = m := by
      show (m : Int) % 18446744073709551616 = m
      omega
    go_enter Tryz.func254, Tryz.ntmps254
    go_wp2
    go_ret
    exact ⟨rfl, rfl⟩

def intV (k : Nat) : Value := .int .i64 (k : Int)
theorem intV_one (D : List Nat) : ∀ u ∈ D.map intV, u.oneCell' = true := by
  intro u hu
  simp only [List.mem_map] at hu
  obtain ⟨k, _, rfl⟩ := hu
  rfl
def fr (d : Value) : Nat := match d with | .slice none _ _ => 1 | _ => 0
def RetI (D : List Nat) (w : World) (e : Ending) (w' : World) : Prop := ∃ v, e = .returned v ∧ OwnI w.heap.size v (D.map intV) w' ∧ Below w.heap.size w w'

theorem OwnI.len {B : Nat} {v : Value} {xs : List Value} {W : World} (h : OwnI B v xs W) : ∃ b c, v = .slice b xs.length c ∧ (xs ≠ [] → fr v = 0) ∧ (xs = [] → fr v = 1 ∨ xs.length = 0) := by
  rcases h.2 with ⟨rfl, h0⟩ | ⟨g, cap, cur, rfl, hgB, hg, hnc, _⟩
  · exact ⟨none, 0, by rw [h0], fun hx => absurd (List.eq_nil_of_length_eq_zero h0) hx, fun _ => .inl rfl⟩
  · exact ⟨_, _, rfl, fun _ => rfl, fun h => .inr (by rw [h]; rfl)⟩

set_option maxHeartbeats 2000000 in
theorem f190_Digits (n : Int) (hn : I64n n) (w : World) : Calls Tryz.prog 190 #[.int .i64 n] w (RetI (decN n.natAbs) w) := by
  have hN : n.natAbs < 10 ^ 20 := by have := hn.1; have := hn.2; omega
  have hN64 : n.natAbs < 18446744073709551616 := by have := hn.1; have := hn.2; omega
  have hlen := Lib.hid (decN_len n.natAbs 20 hN (by omega))
  have hlt := Lib.hid (decN_lt n.natAbs)
  clear hN
  go_enter Tryz.func190, Tryz.ntmps190
  go_wp2_with (go_at_call 254; refine (f254_bare n hn w).mono ?_; rintro e w1 ⟨rfl, rfl⟩)
  generalize n.natAbs = u0 at *
  generalize hB : w.heap.size = B
  have HB := Lib.hid hB
  clear hB hn
  go_loopw [3, 4] (fun u d wr => ∃ (m : Nat) (D : List Nat), u = .int .u64 m ∧ m < 18446744073709551616 ∧ OwnI B d (D.map intV) wr ∧ Below B w wr ∧ ((D = [] ∧ m = u0 ∧ d = .slice none 0 0) ∨ (D ≠ [] ∧ decN u0 = headN m ++ D))) (fun u d _ => (intOf u).toNat + fr d)
  case atStart => exact ⟨u0, [], rfl, hN64, ⟨rfl, .inl ⟨rfl, rfl⟩⟩, by rw [← HB.out]; exact Below.refl _ _, .inl ⟨rfl, rfl, rfl⟩⟩
  case round =>
    obtain ⟨m, D, rfl, hm, hO, hbl, hd⟩ := hrel
    have HD := Lib.hid hd
    clear hd
    obtain ⟨bb, cc, hdd, hf0, _⟩ := hO.len
    have HF := Lib.hid hf0
    clear hf0
    rw [List.length_map] at hdd
    subst hdd
    have hBW : B ≤ wr.heap.size := by rw [← HB.out]; exact hbl.size
    have hDl : (D.map intV).length ≤ 1000000 := by
      rw [List.length_map]
      have h20 := hlen.out
      rcases HD.out with ⟨rfl, _⟩ | ⟨_, h⟩
      · simp
      · rw [h, List.length_append] at h20; omega
    by_cases hgo : m = 0 ∧ D ≠ []
    · obtain ⟨rfl, hne⟩ := hgo
      have hfin : decN u0 = D := by
        rcases HD.out with ⟨h, _⟩ | ⟨_, h⟩
        · exact absurd h hne
        · simpa [headN] using h
      have hl0 : ((D.length : Int) == 0) = false := by simp; exact hne
      clear hlen hlt HD HF hne
      go_wp2
      go_ret
      exact ⟨_, rfl, by rw [HB.out, hfin]; exact hO, by rw [HB.out]; exact hbl⟩
    · have hstep : Hid (decN u0 = headN (m / 10) ++ (m % 10 :: D)) := by
        unfold Hid
        rcases HD.out with ⟨rfl, rfl, _⟩ | ⟨hne, h⟩
        · exact decN_step m
        · have hm0 : m ≠ 0 := fun e => hgo ⟨e, hne⟩
          rw [h, headN, if_neg hm0, decN_step m, List.append_assoc]; rfl
      have hcase : (m ≠ 0) ∨ (m = 0 ∧ D = []) := by
        by_cases e : m = 0
        · exact .inr ⟨e, Classical.byContradiction fun h => hgo ⟨e, h⟩⟩
        · exact .inl e
      have q1 : IntKind.u64.wrap ((m : Int) / 10) = (m / 10 : Nat) := by
        show ((m : Int) / 10) % 18446744073709551616 = (m / 10 : Nat)
        omega
      have q2 : (m : Int).tmod 10 = (m % 10 : Nat) := by
        rw [Int.tmod_eq_emod_of_nonneg (by omega)]; omega
      have hm10 : m / 10 < 18446744073709551616 := by omega
      have hr9 : m % 10 < 10 := by omega
      have hdec : Hid (m / 10 + 0 < m + fr (Value.slice bb D.length cc)) := by
        unfold Hid
        rcases hcase with h | ⟨h, h'⟩
        · omega
        · rcases HD.out with ⟨_, _, h2⟩ | ⟨hne, _⟩
          · have h3 : fr (Value.slice bb D.length cc) = 1 := by rw [h2]; rfl
            rw [h3]; omega
          · exact absurd h' hne
      clear hgo hlen hlt HD HF
      have hq : m / 10 = m / 10 := rfl
      generalize hqq : m / 10 = q at *
      generalize hrr : m % 10 = r at *
      have hmm0 : (0 : Int) ≤ m := by omega
      rcases hcase with h0 | ⟨h0, hD0⟩
      · have hpos : (0 : Int) < m := by omega
        clear h0 hqq hrr hq
        go_wp2_with (at_builtin; refine wp_pre rfl _ _ rfl (intV r) rfl rfl rfl (intV_one D) hO hbl hDl hBW ?_; intro v1 w1 hO1 hB1)
        go_roundw
        case rel =>
          refine ⟨q, r :: D, by go_num, hm10, hO1, hB1, .inr ⟨by simp, hstep.out⟩⟩
        case measure =>
          obtain ⟨_, _, _, hf, _⟩ := hO1.len
          rw [hf (by simp)]
          have h := hdec.out
          simp only [intOf]
          omega
      · have hneg : (m : Int) ≤ 0 := by omega
        have hl0 : ((D.length : Int) == 0) = true := by rw [hD0]; rfl
        have hq0 : q = 0 := by omega
        have hr0 : r = 0 := by omega
        clear hqq hrr hq hmm0
        subst h0 hq0 hr0
        clear hD0 hneg
        go_wp2_with (at_builtin; refine wp_pre rfl _ _ rfl (.int .i64 0) rfl rfl rfl (intV_one D) hO hbl hDl hBW ?_; intro v1 w1 hO1 hB1)
        go_roundw
        case rel =>
          refine ⟨0, 0 :: D, by go_num, by omega, hO1, hB1, .inr ⟨by simp, hstep.out⟩⟩
        case measure =>
          obtain ⟨_, _, _, hf, _⟩ := hO1.len
          rw [hf (by simp)]
          have h := hdec.out
          simp only [intOf]
          omega

/-- The text so far: the sign, and the digits up to k. -/
def preS (neg : Bool) : List UInt8 := if neg = true then [45] else []
theorem str_snoc (l : List UInt8) (c : UInt8) : (⟨l.toArray⟩ : ByteArray) ++ ⟨#[c]⟩ = ⟨(l ++ [c]).toArray⟩ := by
  have : ((⟨l.toArray⟩ : ByteArray) ++ ⟨#[c]⟩).data = (l ++ [c]).toArray := by
    rw [ByteArray.data_append]; simp
  exact congrArg ByteArray.mk this
theorem ch_wrap (k : Nat) (h : k < 10) : IntKind.u8.wrap (48 + (k : Int)) = (ch k).toNat := by
  have h1 : (ch k).toNat = 48 + k := by unfold ch; simp; omega
  rw [h1]
  show (48 + (k : Int)) % 256 = ((48 + k : Nat) : Int)
  omega

theorem decN_ne (u : Nat) : decN u ≠ [] := by rw [decN_step]; simp
theorem OwnI.open_ {B : Nat} {v : Value} {D : List Nat} {W : World} (h : OwnI B v (D.map intV) W) (hne : D ≠ []) :
    ∃ g cap, v = .slice (some ⟨g, 0, none⟩) D.length cap ∧ g < W.heap.size ∧ ∀ (i : Nat) (hi : i < D.length), W.cell? ⟨g, i, none⟩ = some (intV D[i]) := by
  have hO := h
  rcases hO.2 with ⟨_, h0⟩ | ⟨g, cap, cur, rfl, hgB, hg, hnc, _⟩
  · rw [List.length_map] at h0
    exact absurd (List.eq_nil_of_length_eq_zero h0) hne
  · refine ⟨g, cap, by rw [List.length_map], (Array.getElem?_eq_some_iff.1 hg).1, fun i hi => ?_⟩
    have hc := World.ownsRow.cells h (g := g) rfl i (intV D[i]) (by simp [List.getElem?_eq_getElem hi])
    have ha : (⟨g, 0, none⟩ : Addr).add i = ⟨g, 0 + i, none⟩ := by unfold Addr.add; split <;> simp_all
    rwa [ha, Nat.zero_add] at hc
theorem below_through {B1 : Nat} {w w1 w2 : World} (h : Below B1 w w1) (h2 : Below w1.heap.size w1 w2) (hB : B1 ≤ w1.heap.size) : Below B1 w w2 := h.trans (h2.mono hB)

set_option maxHeartbeats 2000000 in
set_option maxRecDepth 100000 in
theorem f110_loop (n : Int) (hn : I64n n) (w : World) (neg : Bool) (hneg : decide (n < 0) = neg) :
    Calls Tryz.prog 110 #[.int .i64 n] w (Ret (.string ⟨(preS neg ++ (decN n.natAbs).map ch).toArray⟩) w) := by
  have hlt := Lib.hid (decN_lt n.natAbs)
  have hlen := decN_len n.natAbs 20 (by have := hn.1; have := hn.2; omega) (by omega)
  have hd := f190_Digits n hn w
  have hne := decN_ne n.natAbs
  generalize decN n.natAbs = D at *
  have hcv := fun (W : World) (c : UInt8) => run_ownB (OwnB.lit W c)
  generalize hpre : preS neg = pre
  have HP := Lib.hid hpre
  clear hpre
  go_enter Tryz.func110, Tryz.ntmps110
  go_wp2_with (go_at_call 190; refine hd.mono ?_; rintro e w1 ⟨v, rfl, hO, hB1⟩; obtain ⟨g, cap, rfl, hg, hcell⟩ := hO.open_ hne; clear hO)
  all_goals
    clear hd hn
    have HC := Lib.hid hcell
    clear hcell
    have hh := Lib.hid hB1
    clear hB1
    go_loopw [3, 5] (fun u i wr => ∃ k : Nat, k ≤ D.length ∧ i = .int .i64 k ∧ u = .string ⟨(pre ++ (D.take k).map ch).toArray⟩ ∧ Below w1.heap.size w1 wr) (fun u i _ => D.length - (intOf i).toNat)
    case atStart => exact ⟨0, by omega, rfl, by rw [← HP.out]; simp [preS, *], Below.refl _ _⟩
    case round =>
      obtain ⟨k, hk, rfl, rfl, hb⟩ := hrel
      by_cases hlt2 : k < D.length
      · have hc1 : wr.cell? ⟨g, k, none⟩ = some (.int .i64 (D[k] : Nat)) := (hb.cell (p := ⟨g, k, none⟩) hg).trans (HC.out k hlt2)
        have hd10 : D[k] < 10 := hlt.out _ (List.getElem_mem hlt2)
        have hsn : Hid ((⟨(pre ++ (D.take k).map ch).toArray⟩ : ByteArray) ++ ⟨#[ch D[k]]⟩ = ⟨(pre ++ (D.take (k + 1)).map ch).toArray⟩) := by
          unfold Hid
          rw [str_snoc, List.append_assoc, List.take_succ_eq_append_getElem hlt2, List.map_append]
          rfl
        have hsz : (⟨(pre ++ (D.take k).map ch).toArray⟩ : ByteArray).size ≤ 100 := by
          have h1 : pre.length ≤ 1 := by rw [← HP.out]; unfold preS; split <;> simp
          show (pre ++ (D.take k).map ch).toArray.size ≤ 100
          rw [List.size_toArray, List.length_append, List.length_map, List.length_take]
          omega
        generalize D[k] = x at *
        have hw := ch_wrap x hd10
        generalize (⟨(pre ++ (D.take k).map ch).toArray⟩ : ByteArray) = s0 at *
        have hcv1 := hcv wr (ch x)
        generalize ch x = cx at *
        clear hcv HC hlt
        go_wp2
        go_roundw
        case rel =>
          refine ⟨k + 1, by omega, by go_num, by rw [hsn.out], hb.alloc hb.size _⟩
        case measure => simp [intOf]; omega
      · obtain rfl : k = D.length := by omega
        rw [List.take_length]
        have hb2 : Below w.heap.size w wr := below_through hh.out hb hh.out.size
        clear hcv HC hlt hh
        go_wp2
        go_ret
        exact ⟨rfl, hb2⟩
theorem f110_Text (n : Int) (hn : I64n n) (w : World) : Calls Tryz.prog 110 #[.int .i64 n] w (Ret (.string (decS n)) w) := by
  refine (f110_loop n hn w _ rfl).mono ?_
  rintro e w1 ⟨rfl, h⟩
  refine ⟨?_, h⟩
  congr 3
  unfold Lib.itoa preS
  by_cases h0 : n < 0
  · rw [if_pos h0, if_pos (decide_eq_true h0), decDigits_decN]; rfl
  · rw [if_neg h0, if_neg (by simpa using h0), decDigits_decN]
    have : n.natAbs = n.toNat := by omega
    rw [this]; rfl
end Go.Proofs.YtijgmloodkbljaaGreatDoor
