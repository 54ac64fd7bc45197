import Derived.Test.YtijgmloodkbljaaGreatDoorPr4
namespace Go.Proofs.YtijgmloodkbljaaGreatDoor
open Go Go.RowKit

/-- Behind 'one': the result's block b2 has been written four times. -/
theorem one_end {w w1 : World} {v0 v1 v2 v3 : Value} (h : Below (w.alloc (.cells #[.int .i64 0, .string ⟨#[]⟩, .int .i64 0, .int .i64 0] 24)).heap.size (w.alloc (.cells #[.int .i64 0, .string ⟨#[]⟩, .int .i64 0, .int .i64 0] 24)) w1) :
    ((((w1.setCell ⟨w.heap.size, 0, none⟩ v0).setCell ⟨w.heap.size, 1, none⟩ v1).setCell ⟨w.heap.size, 2, none⟩ v2).setCell ⟨w.heap.size, 3, none⟩ v3).heap[w.heap.size]? = some (.cells #[v0, v1, v2, v3] 24) ∧
    Below w.heap.size w ((((w1.setCell ⟨w.heap.size, 0, none⟩ v0).setCell ⟨w.heap.size, 1, none⟩ v1).setCell ⟨w.heap.size, 2, none⟩ v2).setCell ⟨w.heap.size, 3, none⟩ v3) := by
  have hz := alloc_kept h
  obtain ⟨hA, gA⟩ := set4 (v0 := v0) (v1 := v1) (v2 := v2) (v3 := v3) hz
  have hb := below_box h
  exact ⟨hA, hb.trans (GC.below (c := w.heap.size) gA w.heap.size (Nat.le_refl _) hb.size)⟩

set_option maxHeartbeats 1000000 in
set_option maxRecDepth 100000 in
theorem f228_mark (s : ByteArray) (h0 : 0 < s.size) (hs : s.size ≤ 1048576) (w : World) (hm : markB (s[0]'h0).toNat = true) :
    Calls Tryz.prog 228 #[.string s] w (OneAt ⟨4, s.extract 0 1, 0, 0⟩ 1 w) := by
  obtain ⟨hb0, hb1⟩ := byte_bounds (s[0]'h0)
  have h1s : (1 : Int) ≤ s.size := by omega
  go_enter Tryz.func228, Tryz.ntmps228
  go_wp2_with fail
  refine (f72_isMark _ _ hb0 hb1).mono ?_
  rintro e w1 ⟨rfl, rfl⟩
  rw [hm]
  go_wp2
  refine bodyPost_ret (results_cell_tmp_row rfl _ _ w.heap.size 24 #[.int .i64 4, .string (s.extract 0 1), .int .i64 0, .int .i64 0] (0, 0) _ rfl (heap_alloc_new w _) Tryz.underlying24 rfl (by kernel_rfl)) rfl ?_
  exact ⟨rfl, (Below.refl _ _).alloc (Nat.le_refl _) _⟩

set_option maxHeartbeats 1000000 in
set_option maxRecDepth 100000 in
theorem f228_name (s : ByteArray) (h0 : 0 < s.size) (hs : s.size ≤ 1048576) (w : World) (hm : markB (s[0]'h0).toNat = false) (hl : letB (s[0]'h0).toNat = true) (k : Nat) (hk : run s.data.toList = k) :
    Calls Tryz.prog 228 #[.string s] w (OneAt ⟨1, s.extract 0 k, 0, 0⟩ k w) := by
  obtain ⟨hb0, hb1⟩ := byte_bounds (s[0]'h0)
  have hks : k ≤ s.size := by rw [← hk, ← data_len]; exact run_le _
  have hks' : (k : Int) ≤ s.size := by omega
  have hk63 : (k : Int) ≤ 1048576 := by omega
  go_enter Tryz.func228, Tryz.ntmps228
  go_wp2_with fail
  refine (f72_isMark _ _ hb0 hb1).mono ?_
  rintro e w1 ⟨rfl, rfl⟩
  rw [hm]
  go_wp2_with fail
  refine (f303_isLetter _ _).mono ?_
  rintro e w2 ⟨rfl, rfl⟩
  rw [hl]
  go_wp2_with fail
  refine (f304_words s 0 _ (by omega) (by omega)).mono ?_
  rintro e w3 ⟨rfl, rfl⟩
  rw [List.drop_zero, hk]
  go_wp2
  refine bodyPost_ret (results_cell_tmp_row rfl _ _ w.heap.size 24 #[.int .i64 1, .string (s.extract 0 k), .int .i64 0, .int .i64 0] (0, 0) _ rfl (heap_alloc_new w _) Tryz.underlying24 rfl (by kernel_rfl)) rfl ?_
  exact ⟨rfl, (Below.refl _ _).alloc (Nat.le_refl _) _⟩

abbrev one2 : ByteArray := ⟨#[49, 41]⟩
theorem f93_ext (t : ByteArray) (ht : t = one1) (w : World) : Calls Tryz.prog 93 #[.string t] w (Ret (.tuple #[vOne, .int .i64 0, .int .i64 0]) w) := by
  subst ht
  exact f93_one w
set_option maxHeartbeats 1000000 in
set_option maxRecDepth 100000 in
theorem f228_one (w : World) : Calls Tryz.prog 228 #[.string one2] w (OneAt ⟨2, ⟨#[]⟩, 1, 0⟩ 1 w) := by
  have hw : run (one2.data.toList.drop 0) = 1 := by decide
  have hm : markB (49 : Int) = false := by decide
  have hl : letB (49 : Int) = false := by decide
  go_enter Tryz.func228, Tryz.ntmps228
  go_wp2_with fail
  refine (f72_isMark 49 _ (by decide) (by decide)).mono ?_
  rintro e w1 ⟨rfl, rfl⟩
  rw [hm]
  go_wp2_with fail
  refine (f303_isLetter 49 _).mono ?_
  rintro e w2 ⟨rfl, rfl⟩
  rw [hl]
  go_wp2_with fail
  refine (f304_words one2 0 _ (by decide) (by decide)).mono ?_
  rintro e w3 ⟨rfl, rfl⟩
  rw [hw]
  go_wp2_with fail
  refine (f93_ext _ (by decide +kernel) _).mono ?_
  rintro e w4 ⟨rfl, h4⟩
  obtain ⟨hA0, hF0⟩ := one_end (w := w) (w1 := w4) (v0 := .int .i64 2) (v1 := .string ⟨#[]⟩) (v2 := .int .i64 1) (v3 := .int .i64 0) h4
  have hA := (heap_alloc_old' _ (.cells #[.int .i64 1, .int .i64 1, .string ⟨#[]⟩, .slice none 0 0] 38) _ (Array.getElem?_eq_some_iff.1 hA0).1).trans hA0
  have hF := hF0.alloc hF0.size (.cells #[.int .i64 1, .int .i64 1, .string ⟨#[]⟩, .slice none 0 0] 38)
  clear hA0 hF0
  have hz := alloc_kept h4
  have hl4 : w.heap.size < w4.heap.size := (Array.getElem?_eq_some_iff.1 hz).1
  obtain ⟨⟨z0, z1, z2, z3⟩, y0, y1, y2, y3⟩ := four_of hz
  have HA := Lib.hid hA
  have HF := Lib.hid hF
  clear hA hF
  go_wp2
  refine bodyPost_ret (results_cell_tmp_row rfl _ _ w.heap.size 24 #[.int .i64 2, .string ⟨#[]⟩, .int .i64 1, .int .i64 0] (0, 0) _ rfl HA.out Tryz.underlying24 rfl (by kernel_rfl)) rfl ?_
  exact ⟨rfl, HF.out⟩
end Go.Proofs.YtijgmloodkbljaaGreatDoor
