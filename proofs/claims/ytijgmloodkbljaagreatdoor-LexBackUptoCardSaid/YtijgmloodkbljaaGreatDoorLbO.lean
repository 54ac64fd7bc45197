import Derived.Test.YtijgmloodkbljaaGreatDoorLbN
import Derived.Deep.RegionWith
import Derived.Deep.CutRange
import Derived.RangeFuncNested
import Derived.RangeFuncBound
import Derived.RangeFuncCalls
import Derived.RangeFuncLeaves
import Derived.Shelf.Abstract
import Derived.Shelf.RegionOpen
import Derived.WalkKit
import Derived.OwnWalkIn
import Derived.TacticsInMore
import Derived.LoopNIn
import Derived.LoopIn
import Derived.Test.YtijgmloodkbljaaGreatDoorLbF
namespace Go.Proofs.YtijgmloodkbljaaGreatDoor
open Go Go.RowKit

def OneL (x : Option (Tok × Nat)) (w : World) (e : Ending) (w' : World) : Prop :=
  match x with | some y => OneAt y.1 y.2 w e w' | none => OneAt ⟨0, ⟨#[]⟩, 0, 0⟩ 0 w e w'
theorem OneL.none {x : Option (Tok × Nat)} (hx : x = none) {w w' : World} {e : Ending} (h : OneAt ⟨0, ⟨#[]⟩, 0, 0⟩ 0 w e w') : OneL x w e w' := by subst hx; exact h
theorem OneL.some {x : Option (Tok × Nat)} {t : Tok} {n : Nat} (hx : x = some (t, n)) {w w' : World} {e : Ending} (h : OneAt t n w e w') : OneL x w e w' := by subst hx; exact h
theorem closedL_le : ∀ (m : Nat) (l : List UInt8) (i : Nat), l.length ≤ m → closedL l i ≤ i + l.length := by
  intro m
  induction m with
  | zero => intro l i h; cases l with | nil => simp [closedL] | cons a b => simp at h
  | succ m ih =>
    intro l i h
    cases l with
    | nil => simp [closedL]
    | cons c l =>
      simp only [List.length_cons] at h
      rw [closedL_cons]
      split
      · have h1 : (l.drop 1).length ≤ m := by simp; omega
        have := ih (l.drop 1) (i + 2) h1
        cases l with
        | nil => simp [closedL]
        | cons d l => simp at this ⊢; omega
      · split
        · simp
        · have := ih l (i + 1) (by omega)
          simp; omega
theorem valP_quote {x : List UInt8} {y : Val} {r : List UInt8} (h : valP 8 (39 :: x) = some (y, r)) : ∃ b, y = vStr b := by
  rw [valP, if_neg (by decide), if_pos rfl] at h
  cases hs : strP x with
  | none => rw [hs] at h; cases h
  | some z =>
    rw [hs] at h
    simp only [Option.map_some, Option.some.injEq, Prod.mk.injEq] at h
    exact ⟨_, h.1.symm⟩
theorem valP_num {c : UInt8} {x : List UInt8} {y : Val} {r : List UInt8} (hc : c = 45 ∨ digU c = true) (h : valP 8 (c :: x) = some (y, r)) : ∃ n, y = vInt n := by
  rw [valP, if_pos hc] at h
  cases hs : numP (c :: x) with
  | none => rw [hs] at h; cases h
  | some z =>
    rw [hs] at h
    simp only [Option.map_some, Option.some.injEq, Prod.mk.injEq] at h
    exact ⟨_, h.1.symm⟩
theorem parseV_valP {l : List UInt8} {y : Val} (h : parseV l = some y) : valP 8 l = some (y, []) := by
  unfold parseV at h
  split at h
  · rename_i v hv
    split at h
    · simp only [Option.some.injEq] at h; rw [← h]; exact hv
    · cases h
  · cases h
theorem ext0 (s : ByteArray) (n : Nat) (h : n ≤ s.size) : (s.extract 0 n).data.toList = s.data.toList.take n := by
  rw [ext_list s 0 n h]; simp
/-- Behind 'one', where a block has come behind the calls: the result's block has been written. -/
theorem one_fin {w w1 : World} {v0 v1 v2 v3 : Value} (o : Obj) (h : Below (w.alloc (.cells #[.int .i64 0, .string ⟨#[]⟩, .int .i64 0, .int .i64 0] 24)).heap.size (w.alloc (.cells #[.int .i64 0, .string ⟨#[]⟩, .int .i64 0, .int .i64 0] 24)) w1) :
    ((set4W w1 w.heap.size v0 v1 v2 v3).alloc o).heap[w.heap.size]? = some (.cells #[v0, v1, v2, v3] 24) ∧ Below w.heap.size w ((set4W w1 w.heap.size v0 v1 v2 v3).alloc o) := by
  obtain ⟨hA0, hF0⟩ := one_end (v0 := v0) (v1 := v1) (v2 := v2) (v3 := v3) h
  exact ⟨(heap_alloc_old' _ o _ (Array.getElem?_eq_some_iff.1 hA0).1).trans hA0, hF0.alloc hF0.size o⟩

set_option maxHeartbeats 4000000 in
set_option maxRecDepth 100000 in
theorem f228_quote (s : ByteArray) (x : List UInt8) (hl : s.data.toList = 39 :: x) (hs : s.size ≤ 1048576) (w : World) (hL : LdE w) :
    Calls Tryz.prog 228 #[.string s] w (OneL (lexOne s.data.toList) w) := by
  have h0 : 0 < s.size := by rw [← data_len, hl]; simp
  have hc0 : s[0] = 39 := by
    have := drop_cons s 0 h0
    rw [List.drop_zero, hl] at this
    exact (List.cons.inj this).1.symm
  have hd1 : s.data.toList.drop 1 = x := by rw [hl]; rfl
  obtain ⟨n, hn⟩ : ∃ n, closedL x 1 = n := ⟨_, rfl⟩
  have hns : n ≤ s.size := by
    have := closedL_le x.length x 1 (Nat.le_refl _)
    have h2 := congrArg List.length hl
    simp at h2
    omega
  have hclosed := fun W => f305_closed s W hs
  rw [hd1, hn] at hclosed
  have hR : lexOne s.data.toList = match parseV (s.data.toList.take n) with
      | some v => if v.kind = 2 then some (⟨3, v.s, 0, 0⟩, n) else none
      | none => none := by
    rw [hl]
    unfold lexOne
    dsimp only
    rw [if_neg (by decide), if_neg (by decide), if_pos rfl, hn]
    rfl
  have htx := ext0 s n hns
  have hck : ∀ y, valP 8 (s.extract 0 n).data.toList = some (y, []) → ∃ b, y = vStr b := by
    intro y hy
    rw [htx, hl] at hy
    cases n with
    | zero => cases hy
    | succ n => exact valP_quote hy
  have hparse := fun W (hW : LdE W) => f93_of (s.extract 0 n) W (Nat.le_trans (ext_size s 0 n hns) hs) hW (fun y hy => by obtain ⟨b, rfl⟩ := hck y hy; exact ckOk_str b)
  generalize hRR : lexOne s.data.toList = R at *
  have hm : markB (39 : Int) = false := by decide
  have hlt : letB (39 : Int) = false := by decide
  have e39 : (s[0].toNat : Int) = 39 := by rw [hc0]; rfl
  have HR := Lib.hid hR
  have HP := hide hparse
  have HCL := hide hclosed
  have HCK := hide hck
  have HTX := Lib.hid htx
  have HL := hide hL
  have hni : (n : Int) ≤ s.size := by omega
  have E39 := Lib.hid e39
  clear hRR hR hparse hclosed hck hc0 hd1 hn hl htx hL e39
  go_enter Tryz.func228, Tryz.ntmps228
  go_wp2_with fail
  rw [E39.out]
  refine (f72_isMark 39 _ (by decide) (by decide)).mono ?_
  rintro e w1 ⟨rfl, rfl⟩
  rw [hm]
  go_wp2_with fail
  refine (f303_isLetter 39 _).mono ?_
  rintro e w2 ⟨rfl, rfl⟩
  rw [hlt]
  go_wp2_with fail
  refine ((unhide HCL) _).mono ?_
  rintro e w3 ⟨rfl, rfl⟩
  go_wp2_with fail
  refine ((unhide HP) _ ((unhide HL).alloc _)).mono ?_
  rintro e w4 h4
  rw [HTX.out] at h4
  cases hp : parseV (s.data.toList.take n) with
  | none =>
    rw [hp] at h4
    have hRn : Hid (R = none) := by unfold Hid; rw [HR.out, hp]
    obtain ⟨j, c, rfl, hc, hb4⟩ := h4
    have hcb : (c != 0) = true := by simpa using hc
    have hF := one_fin (v0 := .int .i64 0) (v1 := .string ⟨#[]⟩) (v2 := .int .i64 0) (v3 := .int .i64 0) (.cells #[.int .i64 0, .int .i64 0, .string ⟨#[]⟩, .slice none 0 0] 38) hb4
    have hz := alloc_kept hb4
    have hl4 : w.heap.size < w4.heap.size := (Array.getElem?_eq_some_iff.1 hz).1
    obtain ⟨⟨z0, z1, z2, z3⟩, y0, y1, y2, y3⟩ := four_of hz
    have HF := hide hF
    clear hF hz hc hb4 hp
    go_wp2
    refine bodyPost_ret (results_cell_tmp_row rfl _ _ w.heap.size 24 #[.int .i64 0, .string ⟨#[]⟩, .int .i64 0, .int .i64 0] (0, 0) _ rfl (unhide HF).1 Tryz.underlying24 rfl (by kernel_rfl)) rfl ?_
    exact OneL.none hRn.out ⟨rfl, (unhide HF).2⟩
  | some y =>
    rw [hp] at h4
    obtain ⟨b, rfl⟩ := (unhide HCK) y (by rw [HTX.out]; exact parseV_valP hp)
    have hRs : Hid (R = some (⟨3, ⟨b.toArray⟩, 0, 0⟩, n)) := by unfold Hid; rw [HR.out, hp]; dsimp only; rw [if_pos (show (vStr b).kind = 2 from rfl)]; rfl
    obtain ⟨v, rfl, hv, hb4⟩ := h4
    obtain ⟨_, _, _, _, AA, cc, hve, _⟩ := hv
    have hve : v = .agg #[.int .i64 2, .int .i64 0, .string ⟨b.toArray⟩, .slice AA 0 cc] := hve
    subst hve
    have hF := one_fin (v0 := .int .i64 3) (v1 := .string ⟨b.toArray⟩) (v2 := .int .i64 0) (v3 := .int .i64 0) (.cells #[.int .i64 2, .int .i64 0, .string ⟨b.toArray⟩, .slice AA 0 cc] 38) hb4
    have hz := alloc_kept hb4
    have hl4 : w.heap.size < w4.heap.size := (Array.getElem?_eq_some_iff.1 hz).1
    obtain ⟨⟨z0, z1, z2, z3⟩, y0, y1, y2, y3⟩ := four_of hz
    have HF := hide hF
    clear hF hz hb4 hp
    go_wp2
    refine bodyPost_ret (results_cell_tmp_row rfl _ _ w.heap.size 24 #[.int .i64 3, .string ⟨b.toArray⟩, .int .i64 0, .int .i64 0] (0, 0) _ rfl (unhide HF).1 Tryz.underlying24 rfl (by kernel_rfl)) rfl ?_
    exact OneL.some hRs.out ⟨rfl, (unhide HF).2⟩
theorem word_dig {c : UInt8} (h : wordU c = true) (hl : letB c.toNat = false) : digU c = true := by
  unfold wordU at h
  rw [hl, Bool.false_or, digU_B] at h
  exact h
theorem run_cons_pos {c : UInt8} {l : List UInt8} (h : run (c :: l) ≠ 0) : wordU c = true := by
  rw [run_cons] at h
  cases hw : wordU c
  · rw [hw] at h; simp at h
  · rfl
/-- What follows the length of a number's text, whatever that is. -/
theorem num_text (c : UInt8) (x : List UInt8) (hl : letB c.toNat = false) (n : Nat) (hn : n = if c = 45 then 1 + run x else run (c :: x)) (y : Val) (h : valP 8 ((c :: x).take n) = some (y, [])) : ∃ m, y = vInt m := by
  cases n with
  | zero => cases h
  | succ n =>
    rw [List.take_succ_cons] at h
    refine valP_num ?_ h
    by_cases h45 : c = 45
    · exact .inl h45
    · rw [if_neg h45] at hn
      have hne : run (c :: x) ≠ 0 := by omega
      exact .inr (word_dig (run_cons_pos hne) hl)
set_option maxHeartbeats 4000000 in
set_option maxRecDepth 100000 in
theorem f228_num (s : ByteArray) (c : UInt8) (x : List UInt8) (hl : s.data.toList = c :: x) (hs : s.size ≤ 1048576) (w : World) (hL : LdE w) (hm : markB c.toNat = false) (hlt : letB c.toNat = false) (h39 : c ≠ 39) :
    Calls Tryz.prog 228 #[.string s] w (OneL (lexOne s.data.toList) w) := by
  have h0 : 0 < s.size := by rw [← data_len, hl]; simp
  have hc0 : s[0] = c := by
    have := drop_cons s 0 h0
    rw [List.drop_zero, hl] at this
    exact (List.cons.inj this).1.symm
  have hd1 : s.data.toList.drop 1 = x := by rw [hl]; rfl
  obtain ⟨n, hn⟩ : ∃ n, n = if c = 45 then 1 + run x else run (c :: x) := ⟨_, rfl⟩
  have hrx := run_le x
  have hrc := run_le (c :: x)
  have hlen := congrArg List.length hl
  have hns : n ≤ s.size := by
    simp at hlen hrc
    rw [hn]
    split <;> omega
  have hw0 := fun W => f304_words s 0 W (by omega) (by omega)
  rw [List.drop_zero, hl] at hw0
  have hw1 := fun W => f304_words s 1 W (by omega) (by omega)
  rw [hd1] at hw1
  have hR : lexOne s.data.toList = match parseV (s.data.toList.take n) with
      | some v => if v.kind = 1 then some (⟨2, ⟨#[]⟩, v.n, 0⟩, n) else none
      | none => none := by
    rw [hl, hn]
    unfold lexOne
    dsimp only
    rw [if_neg (by rw [hm]; decide), if_neg (by rw [hlt]; decide), if_neg h39]
    rfl
  have htx := ext0 s n hns
  have hck : ∀ y, valP 8 (s.extract 0 n).data.toList = some (y, []) → ∃ m, y = vInt m := by
    intro y hy
    rw [htx, hl] at hy
    exact num_text c x hlt n hn y hy
  have hparse := fun W (hW : LdE W) => f93_of (s.extract 0 n) W (Nat.le_trans (ext_size s 0 n hns) hs) hW (fun y hy => by obtain ⟨b, rfl⟩ := hck y hy; exact ckOk_int b)
  generalize hRR : lexOne s.data.toList = R at *
  have ec0 : (s[0].toNat : Int) = c.toNat := by rw [hc0]
  have hq39 : ((c.toNat : Int) == 39) = false := by
    simp only [beq_eq_false_iff_ne, ne_eq]; intro h; exact h39 (UInt8.toNat_inj.1 (by simp; omega))
  have hcb := byte_bounds c
  obtain ⟨hcb0, hcb1⟩ := hcb
  have HR := Lib.hid hR
  have HP := hide hparse
  have HW0 := hide hw0
  have HW1 := hide hw1
  have HCK := hide hck
  have HTX := Lib.hid htx
  have HL := hide hL
  have hni : (n : Int) ≤ s.size := by omega
  have EC0 := Lib.hid ec0
  have hrun0 : (run (c :: x) : Int) ≤ 1048576 := by simp at hlen hrc; omega
  have hrun1 : (run x : Int) ≤ 1048576 := by simp at hlen; omega
  have hor : (((c.toNat : Int) == 45) = true ∧ n = 1 + run x) ∨ (((c.toNat : Int) == 45) = false ∧ n = run (c :: x)) := by
    by_cases h45 : c = 45
    · left; rw [if_pos h45] at hn; exact ⟨by rw [h45]; rfl, hn⟩
    · right; rw [if_neg h45] at hn
      refine ⟨?_, hn⟩
      simp only [beq_eq_false_iff_ne, ne_eq]; intro h; exact h45 (UInt8.toNat_inj.1 (by simp; omega))
  clear hRR hR hparse hw0 hw1 hck hc0 hd1 hn hl htx hL ec0 h39 hrx hrc hlen
  go_enter Tryz.func228, Tryz.ntmps228
  go_wp2_with fail
  rw [EC0.out]
  refine (f72_isMark _ _ hcb0 hcb1).mono ?_
  rintro e w1 ⟨rfl, rfl⟩
  rw [hm]
  go_wp2_with fail
  refine (f303_isLetter _ _).mono ?_
  rintro e w2 ⟨rfl, rfl⟩
  rw [hlt]
  go_wp2_with fail
  refine ((unhide HW0) _).mono ?_
  rintro e w3 ⟨rfl, rfl⟩
  rcases hor with ⟨o1, rfl⟩ | ⟨o1, rfl⟩
  case' inl =>
    have o2 : ((s[0].toNat : Int) == 45) = true := by rw [EC0.out]; exact o1
    go_wp2_with fail
    refine ((unhide HW1) _).mono ?_
    rintro e w3 ⟨rfl, rfl⟩
    generalize run x = m at *
    go_wp2_with fail
  case' inr =>
    have o2 : ((s[0].toNat : Int) == 45) = false := by rw [EC0.out]; exact o1
    go_wp2_with fail
    generalize run (c :: x) = n at *
  case inl =>
    refine ((unhide HP) _ ((unhide HL).alloc _)).mono ?_
    rintro e w4 h4
    rw [HTX.out] at h4
    cases hp : parseV (s.data.toList.take (1 + m)) with
    | none =>
      rw [hp] at h4
      have hRn : Hid (R = none) := by unfold Hid; rw [HR.out, hp]
      obtain ⟨j, c, rfl, hc, hb4⟩ := h4
      have hcb : (c != 0) = true := by simpa using hc
      have hF := one_fin (v0 := .int .i64 0) (v1 := .string ⟨#[]⟩) (v2 := .int .i64 0) (v3 := .int .i64 0) (.cells #[.int .i64 0, .int .i64 0, .string ⟨#[]⟩, .slice none 0 0] 38) hb4
      have hz := alloc_kept hb4
      have hl4 : w.heap.size < w4.heap.size := (Array.getElem?_eq_some_iff.1 hz).1
      obtain ⟨⟨z0, z1, z2, z3⟩, y0, y1, y2, y3⟩ := four_of hz
      have HF := hide hF
      clear hF hz hc hb4 hp
      go_wp2
      refine bodyPost_ret (results_cell_tmp_row rfl _ _ w.heap.size 24 #[.int .i64 0, .string ⟨#[]⟩, .int .i64 0, .int .i64 0] (0, 0) _ rfl (unhide HF).1 Tryz.underlying24 rfl (by kernel_rfl)) rfl ?_
      exact OneL.none hRn.out ⟨rfl, (unhide HF).2⟩
    | some y =>
      rw [hp] at h4
      obtain ⟨b, rfl⟩ := (unhide HCK) y (by rw [HTX.out]; exact parseV_valP hp)
      have hRs : Hid (R = some (⟨2, ⟨#[]⟩, b, 0⟩, (1 + m))) := by unfold Hid; rw [HR.out, hp]; dsimp only; rw [if_pos (show (vInt b).kind = 1 from rfl)]; rfl
      obtain ⟨v, rfl, hv, hb4⟩ := h4
      obtain ⟨_, _, _, _, AA, cc, hve, _⟩ := hv
      have hve : v = .agg #[.int .i64 1, .int .i64 b, .string ⟨#[]⟩, .slice AA 0 cc] := hve
      subst hve
      have hF := one_fin (v0 := .int .i64 2) (v1 := .string ⟨#[]⟩) (v2 := .int .i64 b) (v3 := .int .i64 0) (.cells #[.int .i64 1, .int .i64 b, .string ⟨#[]⟩, .slice AA 0 cc] 38) hb4
      have hz := alloc_kept hb4
      have hl4 : w.heap.size < w4.heap.size := (Array.getElem?_eq_some_iff.1 hz).1
      obtain ⟨⟨z0, z1, z2, z3⟩, y0, y1, y2, y3⟩ := four_of hz
      have HF := hide hF
      clear hF hz hb4 hp
      go_wp2
      refine bodyPost_ret (results_cell_tmp_row rfl _ _ w.heap.size 24 #[.int .i64 2, .string ⟨#[]⟩, .int .i64 b, .int .i64 0] (0, 0) _ rfl (unhide HF).1 Tryz.underlying24 rfl (by kernel_rfl)) rfl ?_
      exact OneL.some hRs.out ⟨by simp, (unhide HF).2⟩
  case inr =>
    refine ((unhide HP) _ ((unhide HL).alloc _)).mono ?_
    rintro e w4 h4
    rw [HTX.out] at h4
    cases hp : parseV (s.data.toList.take n) with
    | none =>
      rw [hp] at h4
      have hRn : Hid (R = none) := by unfold Hid; rw [HR.out, hp]
      obtain ⟨j, c, rfl, hc, hb4⟩ := h4
      have hcb : (c != 0) = true := by simpa using hc
      have hF := one_fin (v0 := .int .i64 0) (v1 := .string ⟨#[]⟩) (v2 := .int .i64 0) (v3 := .int .i64 0) (.cells #[.int .i64 0, .int .i64 0, .string ⟨#[]⟩, .slice none 0 0] 38) hb4
      have hz := alloc_kept hb4
      have hl4 : w.heap.size < w4.heap.size := (Array.getElem?_eq_some_iff.1 hz).1
      obtain ⟨⟨z0, z1, z2, z3⟩, y0, y1, y2, y3⟩ := four_of hz
      have HF := hide hF
      clear hF hz hc hb4 hp
      go_wp2
      refine bodyPost_ret (results_cell_tmp_row rfl _ _ w.heap.size 24 #[.int .i64 0, .string ⟨#[]⟩, .int .i64 0, .int .i64 0] (0, 0) _ rfl (unhide HF).1 Tryz.underlying24 rfl (by kernel_rfl)) rfl ?_
      exact OneL.none hRn.out ⟨rfl, (unhide HF).2⟩
    | some y =>
      rw [hp] at h4
      obtain ⟨b, rfl⟩ := (unhide HCK) y (by rw [HTX.out]; exact parseV_valP hp)
      have hRs : Hid (R = some (⟨2, ⟨#[]⟩, b, 0⟩, n)) := by unfold Hid; rw [HR.out, hp]; dsimp only; rw [if_pos (show (vInt b).kind = 1 from rfl)]; rfl
      obtain ⟨v, rfl, hv, hb4⟩ := h4
      obtain ⟨_, _, _, _, AA, cc, hve, _⟩ := hv
      have hve : v = .agg #[.int .i64 1, .int .i64 b, .string ⟨#[]⟩, .slice AA 0 cc] := hve
      subst hve
      have hF := one_fin (v0 := .int .i64 2) (v1 := .string ⟨#[]⟩) (v2 := .int .i64 b) (v3 := .int .i64 0) (.cells #[.int .i64 1, .int .i64 b, .string ⟨#[]⟩, .slice AA 0 cc] 38) hb4
      have hz := alloc_kept hb4
      have hl4 : w.heap.size < w4.heap.size := (Array.getElem?_eq_some_iff.1 hz).1
      obtain ⟨⟨z0, z1, z2, z3⟩, y0, y1, y2, y3⟩ := four_of hz
      have HF := hide hF
      clear hF hz hb4 hp
      go_wp2
      refine bodyPost_ret (results_cell_tmp_row rfl _ _ w.heap.size 24 #[.int .i64 2, .string ⟨#[]⟩, .int .i64 b, .int .i64 0] (0, 0) _ rfl (unhide HF).1 Tryz.underlying24 rfl (by kernel_rfl)) rfl ?_
      exact OneL.some hRs.out ⟨rfl, (unhide HF).2⟩
end Go.Proofs.YtijgmloodkbljaaGreatDoor

namespace Go.Proofs.YtijgmloodkbljaaGreatDoor
open Go Go.RowKit

theorem ext_one (s : ByteArray) (c : UInt8) (x : List UInt8) (hl : s.data.toList = c :: x) : s.extract 0 1 = ⟨#[c]⟩ := by
  have h0 : 1 ≤ s.size := by rw [← data_len, hl]; simp
  have := ext0 s 1 h0
  rw [hl] at this
  have h2 : (s.extract 0 1).data.toList = [c] := this
  apply ByteArray.ext
  apply Array.toList_inj.1
  exact h2
theorem ext_take (s : ByteArray) (k : Nat) (h : k ≤ s.size) : s.extract 0 k = ⟨(s.data.toList.take k).toArray⟩ := by
  have := ext0 s k h
  apply ByteArray.ext
  apply Array.toList_inj.1
  rw [this]
theorem f228_any (s : ByteArray) (h0 : 0 < s.size) (hs : s.size ≤ 1048576) (w : World) (hL : LdE w) :
    Calls Tryz.prog 228 #[.string s] w (OneL (lexOne s.data.toList) w) := by
  cases hl : s.data.toList with
  | nil => rw [← data_len, hl] at h0; simp at h0
  | cons c x =>
    have hc0 : s[0] = c := by
      have := drop_cons s 0 h0
      rw [List.drop_zero, hl] at this
      exact (List.cons.inj this).1.symm
    rw [← hl]
    cases hm : markB c.toNat with
    | true =>
      refine (f228_mark s h0 hs w (by rw [hc0]; exact hm)).mono fun e w' h => OneL.some ?_ h
      rw [hl, ext_one s c x hl]
      unfold lexOne
      dsimp only
      rw [if_pos hm]
    | false =>
      cases hlt : letB c.toNat with
      | true =>
        refine (f228_name s h0 hs w (by rw [hc0]; exact hm) (by rw [hc0]; exact hlt) (run s.data.toList) rfl).mono fun e w' h => OneL.some ?_ h
        rw [ext_take s (run s.data.toList) (by have := run_le s.data.toList; rw [data_len] at this; exact this), hl]
        unfold lexOne
        dsimp only
        rw [if_neg (by rw [hm]; decide), if_pos hlt]
      | false =>
        by_cases h39 : c = 39
        · subst h39
          exact f228_quote s x hl hs w hL
        · exact f228_num s c x hl hs w hL hm hlt h39
end Go.Proofs.YtijgmloodkbljaaGreatDoor

namespace Go.Proofs.YtijgmloodkbljaaGreatDoor
open Go Go.RowKit

/-- Behind a step that hands back no token: the result's block has been written anew, the scanner stands as it stood. -/
theorem zero_fin {c b2 K : Nat} {s : ByteArray} {w W4 : World} (hbb : w.heap.size = b2) (hne : b2 ≠ c) (hz : W4.heap[b2]? = some (.cells #[.int .i64 0, .string ⟨#[]⟩, .int .i64 0, .int .i64 0] 24)) (hsc : ScAt c s K W4)
    (hg : ∀ k, k < b2 → k ≠ c → W4.heap[k]? = w.heap[k]?) (hos : W4.os = w.os ∧ W4.tape = w.tape ∧ W4.output = w.output ∧ b2 ≤ W4.heap.size) :
    (set4W W4 b2 (.int .i64 0) (.string ⟨#[]⟩) (.int .i64 0) (.int .i64 0)).heap[b2]? = some (.cells #[.int .i64 0, .string ⟨#[]⟩, .int .i64 0, .int .i64 0] 24) ∧
    ScAt c s K (set4W W4 b2 (.int .i64 0) (.string ⟨#[]⟩) (.int .i64 0) (.int .i64 0)) ∧ GC c w (set4W W4 b2 (.int .i64 0) (.string ⟨#[]⟩) (.int .i64 0) (.int .i64 0)) := by
  obtain ⟨h8, g8⟩ := set4 (v0 := .int .i64 0) (v1 := .string ⟨#[]⟩) (v2 := .int .i64 0) (v3 := .int .i64 0) hz
  refine ⟨h8, (g8.block c (Array.getElem?_eq_some_iff.1 hsc).1 (by simp; exact fun e => hne e.symm)).trans hsc, g8.os.trans hos.1, g8.tape.trans hos.2.1, g8.output.trans hos.2.2.1, ?_, fun k hk hr => ?_⟩
  · have h1 := g8.size
    have h2 := hos.2.2.2
    rw [hbb]
    exact Nat.le_trans h2 h1
  · have h2 := hos.2.2.2
    exact (g8.block k (by omega) (by simp; omega)).trans (hg k (by omega) (fun e => hr (by rw [e])))

set_option maxHeartbeats 4000000 in
set_option maxRecDepth 100000 in
theorem f161_any (c : Nat) (s : ByteArray) (k K n : Nat) (t : Tok) (w : World) (h : ScAt c s k w) (hk : k ≤ s.size) (hs : s.size ≤ 1048576) (hL : LdE w) (hc : 8 ≤ c)
    (hK : skip s k = K) (hlt : K < s.size) (h228 : ∀ W, LdE W → Calls Tryz.prog 228 #[.string (s.extract K s.size)] W (OneAt t n W))
    (ht : t.text.size ≤ 1048576) (hpos : t.pos = K) (hn2 : n ≤ 1048576) (Q : Ending → World → Prop)
    (hQ1 : n ≠ 0 → t.ok = true → ∀ e w', RetC (.tuple #[t.val, .bool true]) c s (K + n) w e w' → Q e w') (hQ0 : ¬(n ≠ 0 ∧ t.ok = true) → ∀ e w', RetC (.tuple #[zeroV, .bool false]) c s K w e w' → Q e w') :
    Calls Tryz.prog 161 #[.pointer (some ⟨c, 0, none⟩)] w Q := by
  obtain ⟨tk, tt, tn, tp⟩ := t
  dsimp only at hpos
  subst hpos
  have h83 := f83_blanks c s k (w.alloc (.cells #[.int .i64 0, .string ⟨#[]⟩, .int .i64 0, .int .i64 0] 24)) (by
    have hcl : c < w.heap.size := (Array.getElem?_eq_some_iff.1 h).1
    exact (heap_alloc_old' w _ _ hcl).trans h) hk hs
  rw [hK, decide_eq_true hlt] at h83
  have hlt' : (K : Int) < s.size := by omega
  go_enter Tryz.func161, Tryz.ntmps161
  go_wp2_with (go_at_call 83; refine h83.mono ?_; clear h83)
  rintro e w1 ⟨rfl, hsc1, hg1⟩
  have c0 : w1.cell? ⟨c, 0, none⟩ = some (.string s) := Lib.cell_of_heap hsc1 0
  have c1 : w1.cell? ⟨c, 1, none⟩ = some (.int .i64 K) := Lib.cell_of_heap hsc1 1
  have hcl1 : c < w1.heap.size := (Array.getElem?_eq_some_iff.1 hsc1).1
  have hL1 : LdE w1 := (hL.alloc _).below (hg1.below 8 hc (by have := hL.laid.size; simp; omega)) (Nat.le_refl _)
  have hL1d : LdE w1.drew := hL1.below ((Below.refl 8 w1).drew) (Nat.le_refl _)
  have hb2c : w.heap.size ≠ c := by
    have hcl : c < w.heap.size := (Array.getElem?_eq_some_iff.1 h).1
    omega
  go_upto_region 3 with fail
  go_cut [4, 5] from 6 (fun s4 s5 wc => ∃ b4 : Nat, s4 = .pointer (some ⟨b4, 0, none⟩) ∧ s5 = .int .i64 n ∧ R3 c s K #[.int .i64 tk, .string tt, .int .i64 tn, .int .i64 0] (w.alloc (.cells #[.int .i64 0, .string ⟨#[]⟩, .int .i64 0, .int .i64 0] 24)) b4 wc)
  case first =>
    go_region_with (go_at_call 228; refine (h228 _ (by first | exact hL1d | exact hL1d.alloc _)).mono ?_; rintro e w2 ⟨rfl, hb2⟩; (first | (have hx := alloc_kept' hb2; obtain ⟨⟨z0, z1, z2, z3⟩, y0, y1, y2, y3⟩ := four_of hx) | skip))
    all_goals (go_wp2_with fail; go_meet)
    all_goals first | with_reducible exact ⟨_, rfl, rfl, r3_new hsc1 hg1 hb2⟩ | with_reducible exact ⟨_, rfl, rfl, r3_old hsc1 hg1 hb2⟩
  case rest =>
    obtain ⟨b4, rfl, rfl, h4, hsc3, hg3, hlt4⟩ := hcut
    have hb4c : b4 ≠ c := by
      have hcl : c < w.heap.size := (Array.getElem?_eq_some_iff.1 h).1
      have : w.heap.size + 1 ≤ b4 := by simpa using hlt4
      omega
    obtain ⟨⟨z0, z1, z2, z3⟩, y0, y1, y2, y3⟩ := four_of h4
    have c0 : wc.cell? ⟨c, 0, none⟩ = some (.string s) := Lib.cell_of_heap hsc3 0
    have c1 : wc.cell? ⟨c, 1, none⟩ = some (.int .i64 K) := Lib.cell_of_heap hsc3 1
    have hz2 : wc.heap[w.heap.size]? = some (.cells #[.int .i64 0, .string ⟨#[]⟩, .int .i64 0, .int .i64 0] 24) := (hg3.block w.heap.size (by simp) (by simp; omega)).trans (heap_alloc_new w _)
    have hb42 : b4 ≠ w.heap.size := by
      have : w.heap.size + 1 ≤ b4 := by simpa using hlt4
      omega
    have hlt5 : w.heap.size + 1 ≤ b4 := by simpa using hlt4
    obtain ⟨h5, g5⟩ := setCell_block wc b4 3 (.int .i64 (K : Int)) _ _ h4
    have hcl3 : c < wc.heap.size := (Array.getElem?_eq_some_iff.1 hsc3).1
    have hsc5 : ScAt c s K (wc.setCell ⟨b4, 3, none⟩ (.int .i64 (K : Int))) := (g5.block c hcl3 (by simp; omega)).trans hsc3
    have hz5 : (wc.setCell ⟨b4, 3, none⟩ (.int .i64 (K : Int))).heap[w.heap.size]? = _ := (g5.block w.heap.size (Array.getElem?_eq_some_iff.1 hz2).1 (by simp; omega)).trans hz2
    have hzl : w.heap.size < (wc.setCell ⟨b4, 3, none⟩ (.int .i64 (K : Int))).heap.size := (Array.getElem?_eq_some_iff.1 hz5).1
    have hos5 : (wc.setCell ⟨b4, 3, none⟩ (.int .i64 (K : Int))).os = w.os ∧ (wc.setCell ⟨b4, 3, none⟩ (.int .i64 (K : Int))).tape = w.tape ∧ (wc.setCell ⟨b4, 3, none⟩ (.int .i64 (K : Int))).output = w.output ∧ w.heap.size ≤ (wc.setCell ⟨b4, 3, none⟩ (.int .i64 (K : Int))).heap.size := ⟨g5.os.trans hg3.os, g5.tape.trans hg3.tape, g5.output.trans hg3.output, Nat.le_of_lt hzl⟩
    have hg55 : ∀ k, k < w.heap.size → k ≠ c → (wc.setCell ⟨b4, 3, none⟩ (.int .i64 (K : Int))).heap[k]? = w.heap[k]? := fun k hk hkc => by
      have h1 := hg3.block k (by simp; omega) (by simp; omega)
      have h2 := g5.block k (by have := hg3.size; simp at this; omega) (by simp; omega)
      exact h2.trans (h1.trans (heap_alloc_old' w _ k hk))
    by_cases hn : n = 0
    · have hn0 : ((n : Int) == 0) = true := by simp [hn]
      have HF := Lib.hid (zero_fin rfl hb2c hz5 hsc5 hg55 hos5)
      obtain ⟨⟨x0, x1, x2, x3⟩, v0, v1, v2, v3⟩ := four_of hz5
      clear hos5 hg55 hz5 hsc5 hz2 hsc3 hg3 h5 g5 h4 hL1 hL1d hg1 hsc1
      generalize hbb : w.heap.size = b2 at *
      clear hbb
      go_wp2
      refine bodyPost_ret (results_cell_tmp_row rfl _ _ b2 24 #[.int .i64 0, .string ⟨#[]⟩, .int .i64 0, .int .i64 0] (0, 0) _ rfl HF.out.1 Tryz.underlying24 rfl (by kernel_rfl)) rfl ?_
      exact hQ0 (fun h => h.1 hn) _ _ ⟨rfl, HF.out.2.1, HF.out.2.2⟩
    have hn0 : ((n : Int) == 0) = false := by simp; omega
    go_wp2_with (go_at_call 15; refine (f15_Check _ _ _ _ _ ht).mono ?_; skip)
    rintro e w4 ⟨rfl, hb4⟩
    have hsc6 : ScAt c s K w4 := (hb4.block c (Array.getElem?_eq_some_iff.1 hsc5).1).trans hsc5
    have hz6 := (hb4.block w.heap.size hzl).trans hz5
    have h6 := (hb4.block b4 (Array.getElem?_eq_some_iff.1 h5).1).trans h5
    have hg6 : ∀ k, k < w.heap.size → k ≠ c → w4.heap[k]? = w.heap[k]? := fun k hk hkc => by
      have h1 := hg3.block k (by simp; omega) (by simp; omega)
      have h2 := g5.block k (by have := hg3.size; simp at this; omega) (by simp; omega)
      exact (hb4.block k (by omega)).trans (h2.trans (h1.trans (heap_alloc_old' w _ k hk)))
    clear c0 c1 z0 z1 z2 z3 y0 y1 y2 y3
    obtain ⟨⟨z0, z1, z2, z3⟩, y0, y1, y2, y3⟩ := four_of h6
    obtain ⟨⟨x0, x1, x2, x3⟩, v0, v1, v2, v3⟩ := four_of hz6
    have c0 : w4.cell? ⟨c, 0, none⟩ = some (.string s) := Lib.cell_of_heap hsc6 0
    have c1 : w4.cell? ⟨c, 1, none⟩ = some (.int .i64 K) := Lib.cell_of_heap hsc6 1
    have cf : w4.frozen? ⟨c, 1, none⟩ = false := Lib.frozen_of_heap hsc6 1
    have hos : w4.os = w.os ∧ w4.tape = w.tape ∧ w4.output = w.output ∧ w.heap.size ≤ w4.heap.size := ⟨hb4.os.trans (g5.os.trans hg3.os), hb4.tape.trans (g5.tape.trans hg3.tape), hb4.output.trans (g5.output.trans hg3.output), by have := hb4.size; omega⟩
    by_cases hok : Tok.ok ⟨tk, tt, tn, K⟩ = true
    case neg =>
      have e15 : checkE (Tok.ok ⟨tk, tt, tn, K⟩) = 150 := by
        have : Tok.ok ⟨tk, tt, tn, K⟩ = false := by simpa using hok
        rw [this]; rfl
      rw [e15]
      have HF := Lib.hid (zero_fin rfl hb2c hz6 hsc6 hg6 hos)
      clear hos5 hg55 hz5 hsc5 hz2 hsc3 hg3 h5 g5 h4 hL1 hL1d hg1 hsc1 hg6 hos hz6 hsc6 h6 hb4 e15
      generalize hbb : w.heap.size = b2 at *
      clear hbb
      go_wp2
      refine bodyPost_ret (results_cell_tmp_row rfl _ _ b2 24 #[.int .i64 0, .string ⟨#[]⟩, .int .i64 0, .int .i64 0] (0, 0) _ rfl HF.out.1 Tryz.underlying24 rfl (by kernel_rfl)) rfl ?_
      exact hQ0 (fun h => hok h.2) _ _ ⟨rfl, HF.out.2.1, HF.out.2.2⟩
    rw [hok, show checkE true = 0 from rfl]
    have HH := Lib.hid hg6
    have HO := Lib.hid hos
    clear hg6 hos hg55 hos5
    have hne : Hid (w.heap.size ≠ c) := hb2c
    generalize hbb : w.heap.size = b2 at *
    have HBB := Lib.hid hbb
    clear hbb
    obtain ⟨hs7, g7⟩ := hsc6.set (K + n)
    have hz7 := (g7.block b2 (Array.getElem?_eq_some_iff.1 hz6).1 (by simp; exact hne.out)).trans hz6
    have ekn : ((K + n : Nat) : Int) = (K : Int) + n := by omega
    rw [ekn] at hs7 g7 hz7
    obtain ⟨h8, g8⟩ := set4 (v0 := .int .i64 tk) (v1 := .string tt) (v2 := .int .i64 tn) (v3 := .int .i64 (K : Int)) hz7
    have hs8 := (g8.block c (Array.getElem?_eq_some_iff.1 hs7).1 (by simp; exact fun e => hne.out e.symm)).trans hs7
    have H8 := Lib.hid h8
    have HS8 := Lib.hid hs8
    have G8 := Lib.hid g8
    have G7 := Lib.hid g7
    clear h8 hs8 g8 g7 hs7 hz7
    go_wp2
    refine bodyPost_ret (results_cell_tmp_row rfl _ _ b2 24 #[.int .i64 tk, .string tt, .int .i64 tn, .int .i64 K] (0, 0) _ rfl H8.out Tryz.underlying24 rfl (by kernel_rfl)) rfl ?_
    refine hQ1 hn hok _ _ ⟨rfl, ?_, ?_⟩
    · have h := HS8.out
      unfold ScAt
      rw [ekn]
      exact h
    · refine ⟨G8.out.os.trans (G7.out.os.trans HO.out.1), G8.out.tape.trans (G7.out.tape.trans HO.out.2.1), G8.out.output.trans (G7.out.output.trans HO.out.2.2.1), ?_, fun k hk hr => ?_⟩
      · have h1 := G8.out.size
        have h2 := G7.out.size
        have h3 := HO.out.2.2.2
        have h4 := HBB.out
        omega
      · have hk2 : k < b2 := by rw [← HBB.out]; exact hk
        have hkc : k ≠ c := fun e => hr (by rw [e])
        have h2 := G7.out.size
        have h3 := HO.out.2.2.2
        exact (G8.out.block k (by omega) (by simp; omega)).trans ((G7.out.block k (by omega) hr).trans (HH.out k hk2 hkc))

end Go.Proofs.YtijgmloodkbljaaGreatDoor

namespace Go.Proofs.YtijgmloodkbljaaGreatDoor
open Go Go.RowKit Go.Shelf
attribute [local go_sem] Oper.semAt_some

/-- What the scanner's next step hands back from the place k on. -/
def NextOk (c : Nat) (s : ByteArray) (k : Nat) (r : Option (Tok × Nat)) (stop : Nat) : Prop := ∀ w, ScAt c s k w → Laid w →
  Calls Tryz.prog 161 #[.pointer (some ⟨c, 0, none⟩)] w (match r with | some (t, j) => RetC (.tuple #[t.val, .bool true]) c s j w | none => RetC (.tuple #[zeroV, .bool false]) c s stop w)
inductive Run (nx : Nat → Option (Tok × Nat)) (k : Nat) : List Tok → Nat → Prop
  | nil : Run nx k [] k
  | snoc {xs : List Tok} {j j' : Nat} {t : Tok} : Run nx k xs j → nx j = some (t, j') → Run nx k (xs ++ [t]) j'

set_option maxHeartbeats 4000000 in
set_option maxRecDepth 100000 in
theorem f160_all (n : Nat) (c : Nat) (s : ByteArray) (nx : Nat → Option (Tok × Nat)) (stop : Nat → Nat) (hN : ∀ k, k ≤ s.size → NextOk c s k (nx k) (stop k)) (hP : ∀ k t j, nx k = some (t, j) → k < j ∧ j ≤ s.size)
    (l Bn k0 : Nat) (hk0 : k0 ≤ s.size) (J Jx : List Tok → World → Prop) (hJ : ∀ xs W W', J xs W → W.grownBy W' (some c) → J xs W') (hJL : ∀ xs W, J xs W → Laid W ∧ W.cell? ⟨Bn, 0, none⟩ = some (.pointer (some ⟨c, 0, none⟩)))
    (hY : ∀ pre t W, J pre W → YieldAt Fence.wide (n - 1) Tryz.prog l #[t.val] W fun e W' => (e = .returned (.bool true) ∧ J (pre ++ [t]) W' ∧ W'.heap[c]? = W.heap[c]?) ∨ (e = .returned (.bool false) ∧ Jx (pre ++ [t]) W'))
    (W : World) (h0 : J [] W) (hs0 : ScAt c s k0 W) :
    CallsIn Fence.wide n Tryz.prog 160 #[.func (.yield l) #[] #[], .pointer (some ⟨Bn, 0, none⟩)] W fun e W' => (∃ v, e = .returned v) ∧
      ((∃ xs, (∃ j, Run nx k0 xs j ∧ nx j = none ∧ j ≤ s.size ∧ ScAt c s (stop j) W') ∧ J xs W') ∨ (∃ pre, (∃ j, Run nx k0 pre j) ∧ Jx pre W')) := by
  refine callsIn_of_wp Tryz.func160 rfl trivial ?_ rfl
  simp only [Tryz.ntmps160, List.size_toArray, List.length_cons, List.length_nil, Nat.reduceAdd, Nat.reduceSub, Array.replicate_succ, Array.replicate_zero, List.push_toArray, List.append_toArray, List.nil_append, List.cons_append]
  gi_wp2
  gi_loopw [] (fun wr => ∃ (pre : List Tok) (j : Nat), Run nx k0 pre j ∧ j ≤ s.size ∧ J pre wr ∧ ScAt c s j wr) (fun wr => s.size - posOf c wr)
  case atStart => exact ⟨[], k0, .nil, hk0, h0, hs0⟩
  case round =>
    obtain ⟨pre, j, hrun, hj, hJp, hsc⟩ := hrel
    obtain ⟨hL, hbn⟩ := hJL pre wr hJp
    have hpos := hsc.pos
    have hall := hN j hj wr hsc hL
    cases hnx : nx j with
    | none =>
      have h161 : Calls Tryz.prog 161 #[.pointer (some ⟨c, 0, none⟩)] wr (RetC (.tuple #[zeroV, .bool false]) c s (stop j) wr) := by rw [hnx] at hall; exact hall
      clear hall
      gi_wp2_with fail
      refine ⟨trivial, (by simp [Fence.wide]), (callsIn_wide.2 h161).mono ?_⟩
      rintro e w1 ⟨rfl, hs1, hg1⟩
      gi_wp2
      refine ⟨fun _ h => (by cases h), ?_⟩
      gi_wp2
      refine bodyPost_ret (results_none rfl _ _ _) rfl ?_
      refine ⟨⟨_, rfl⟩, .inl ⟨pre, ⟨j, hrun, hnx, hj, (heap_alloc_old' w1 _ _ (Array.getElem?_eq_some_iff.1 hs1).1).trans hs1⟩, ?_⟩⟩
      exact hJ _ _ _ (hJ _ _ _ hJp hg1) (GC.of_below ((Below.refl _ _).alloc (Nat.le_refl _) _))
    | some r =>
      obtain ⟨t, j'⟩ := r
      obtain ⟨hlt, hj'⟩ := hP j t j' hnx
      have h161 : Calls Tryz.prog 161 #[.pointer (some ⟨c, 0, none⟩)] wr (RetC (.tuple #[t.val, .bool true]) c s j' wr) := by rw [hnx] at hall; exact hall
      clear hall
      gi_wp2_with fail
      refine ⟨trivial, (by simp [Fence.wide]), (callsIn_wide.2 h161).mono ?_⟩
      rintro e w1 ⟨rfl, hs1, hg1⟩
      have hJ1 := hJ _ _ _ (hJ _ _ _ hJp hg1) (GC.of_below ((Below.refl _ _).alloc (Nat.le_refl _) (.cells #[.int .i64 t.kind, .string t.text, .int .i64 t.n, .int .i64 t.pos] 24)))
      obtain ⟨fn, tmps, assign, body, hy, hR⟩ := hY pre t _ hJ1
      have hs2 : ScAt c s j' (w1.alloc (.cells #[.int .i64 t.kind, .string t.text, .int .i64 t.n, .int .i64 t.pos] 24)) := (heap_alloc_old' w1 _ _ (Array.getElem?_eq_some_iff.1 hs1).1).trans hs1
      gi_wp2
      refine ⟨(by simp [Fence.wide]), hR.mono ?_⟩
      rintro e W3 (⟨rfl, hJ3, hk3⟩ | ⟨rfl, hJx3⟩)
      · have hs3 : ScAt c s j' W3 := hk3.trans hs2
        gi_wp2
        go_roundw
        case rel => exact ⟨pre ++ [t], j', .snoc hrun hnx, hj', hJ3, hs3⟩
        case measure => rw [hs3.pos, hpos]; omega
      · gi_wp2
        refine bodyPost_ret (results_none rfl _ _ _) rfl ?_
        exact ⟨⟨_, rfl⟩, .inr ⟨pre ++ [t], ⟨j', .snoc hrun hnx⟩, hJx3⟩⟩
end Go.Proofs.YtijgmloodkbljaaGreatDoor
