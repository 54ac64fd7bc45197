import Derived.Test.YtijgmloodkbljaaGreatDoorLbK
import Derived.Test.YtijgmloodkbljaaGreatDoorLbM
import Derived.Test.YtijgmloodkbljaaGreatDoorLbH
import Derived.Test.YtijgmloodkbljaaGreatDoorLbF
namespace Go.Proofs.YtijgmloodkbljaaGreatDoor
open Go Go.RowKit

theorem f212_int (n : Int) (w : World) : Calls Tryz.prog 212 #[.agg #[.int .i64 1, .int .i64 n, .string ⟨#[]⟩, .slice none 0 0], .int .i64 1] w (Ret (.bool true) w) := by
  go_enter Tryz.func212, Tryz.ntmps212
  go_wp2
  go_ret
  exact ⟨rfl, ((Below.refl _ _).alloc (Nat.le_refl _) _).alloc (by simp) _⟩
theorem f129_int (n : Int) (w : World) : Calls Tryz.prog 129 #[.agg #[.int .i64 1, .int .i64 n, .string ⟨#[]⟩, .slice none 0 0]] w (Ret (.int .i64 0) w) := by
  go_enter Tryz.func129, Tryz.ntmps129
  go_wp2_with (go_at_call 212; refine (f212_int n _).mono ?_; rintro e w1 ⟨rfl, h1⟩)
  go_wp2
  go_ret
  exact ⟨rfl, below_box h1⟩

theorem results_cell_tmp2 {P : Program} {fn : Func} {p u1 u2 : Tmp} {ty : TypeId} (h : fn.results = #[.cell p ty, .tmp u1, .tmp u2]) (tmps : Array Value) (w : World) (a : Addr) (v : Value) (hp : tmps.getD p undef = .pointer (some a)) (hl : (loadVar ty a).run P w = .ok v w) :
    (results fn tmps).run P w = .ok (.tuple #[v, tmps.getD u1 undef, tmps.getD u2 undef]) w := by
  have q0 : tmps[p]?.getD undef = .pointer (some a) := by simpa using hp
  simp only [results, h]
  simp [Sem.run_bind, Result.andThen, asAddr, q0, hl]

set_option maxHeartbeats 4000000 in
set_option maxRecDepth 100000 in
theorem f93_one (w : World) : Calls Tryz.prog 93 #[.string one1] w (Ret (.tuple #[vOne, .int .i64 0, .int .i64 0]) w) := by
  go_enter Tryz.func93, Tryz.ntmps93
  go_wp2_with fail
  refine (f175_one _).mono ?_
  rintro e w1 ⟨rfl, h1⟩
  have hz1 := alloc_kept h1
  have hb1 := below_box h1
  go_wp2_with fail
  refine (f129_int 1 _).mono ?_
  rintro e w2 ⟨rfl, h2⟩
  have hx2 := alloc_kept h2
  have hl1 : w.heap.size < w1.heap.size := (Array.getElem?_eq_some_iff.1 hz1).1
  have hz2 : w2.heap[w.heap.size]? = _ := (h2.block w.heap.size (by simp; omega)).trans ((heap_alloc_old' w1 _ _ hl1).trans hz1)
  have hb2 : Below w.heap.size w w2 := hb1.trans ((below_box h2).mono (Nat.le_of_lt hl1))
  have hne : Hid (w1.heap.size ≠ w.heap.size) := by unfold Hid; omega
  generalize hb : w.heap.size = b at hz2 hne
  have HB := Lib.hid hb
  generalize w1.heap.size = b5 at *
  clear h1 h2 hb1 hz1 hl1
  obtain ⟨⟨x0, x1, x2, x3⟩, _⟩ := four_of hx2
  obtain ⟨⟨z0, z1, z2, z3⟩, y0, y1, y2, y3⟩ := four_of hz2
  obtain ⟨hA, gA⟩ := set4 (v0 := .int .i64 1) (v1 := .int .i64 1) (v2 := .string ⟨#[]⟩) (v3 := .slice none 0 0) hz2
  have hfin : Below w.heap.size w ((((w2.setCell ⟨b, 0, none⟩ (.int .i64 1)).setCell ⟨b, 1, none⟩ (.int .i64 1)).setCell ⟨b, 2, none⟩ (.string ⟨#[]⟩)).setCell ⟨b, 3, none⟩ (.slice none 0 0)) := by
    have := HB.out
    exact hb2.trans (GC.below (c := b) gA w.heap.size (by omega) hb2.size)
  have HA := Lib.hid hA
  have HF := Lib.hid hfin
  clear hA hfin gA hb
  go_wp2
  refine bodyPost_ret (results_cell_tmp2 rfl _ _ ⟨b, 0, none⟩ _ rfl (run_loadVar_row _ b 38 38 _ (0, 0) _ HA.out Tryz.underlying38 rfl (by kernel_rfl))) rfl ?_
  exact ⟨rfl, HF.out⟩
end Go.Proofs.YtijgmloodkbljaaGreatDoor

namespace Go.Proofs.YtijgmloodkbljaaGreatDoor
open Go Go.RowKit

/-- What value.Parse hands back. -/
def ParseR (x : Option Val) (w : World) (e : Ending) (w' : World) : Prop :=
  match x with
  | some y => ∃ v, e = .returned (.tuple #[v, .int .i64 0, .int .i64 0]) ∧ VR w' (fun b => w.heap.size ≤ b) y v ∧ Below w.heap.size w w'
  | none => ∃ j c : Int, e = .returned (.tuple #[v38, .int .i64 j, .int .i64 c]) ∧ c ≠ 0 ∧ Below w.heap.size w w'
theorem ParseR.none {x : Option Val} (hx : x = none) {w w' : World} {e : Ending} (j c : Int) (he : e = .returned (.tuple #[v38, .int .i64 j, .int .i64 c])) (hc : c ≠ 0) (hb : Below w.heap.size w w') : ParseR x w e w' := by subst hx; exact ⟨j, c, he, hc, hb⟩
theorem ParseR.some {x : Option Val} {y : Val} (hx : x = some y) {w w' : World} {e : Ending} {v : Value} (he : e = .returned (.tuple #[v, .int .i64 0, .int .i64 0])) (hv : VR w' (fun b => w.heap.size ≤ b) y v) (hb : Below w.heap.size w w') : ParseR x w e w' := by subst hx; exact ⟨v, he, hv, hb⟩
def ckE (b : Bool) : Int := if b = true then 0 else 20
/-- What value.Check promises of a value. -/
def CkOk (y : Val) : Prop := ∀ (W : World) (v : Value), VW W y v → Calls Tryz.prog 129 #[v] W (Ret (.int .i64 (ckE (okV y))) W)

set_option maxHeartbeats 1000000 in
theorem f212_intA (n : Int) (A : Option Addr) (c : Nat) (w : World) : Calls Tryz.prog 212 #[.agg #[.int .i64 1, .int .i64 n, .string ⟨#[]⟩, .slice A 0 c], .int .i64 1] w (Ret (.bool true) w) := by
  go_enter Tryz.func212, Tryz.ntmps212
  go_wp2
  go_ret
  exact ⟨rfl, ((Below.refl _ _).alloc (Nat.le_refl _) _).alloc (by simp) _⟩
set_option maxHeartbeats 1000000 in
theorem f212_strA (s : ByteArray) (A : Option Addr) (c : Nat) (w : World) : Calls Tryz.prog 212 #[.agg #[.int .i64 2, .int .i64 0, .string s, .slice A 0 c], .int .i64 1] w (Ret (.bool (decide (s.size ≤ 128))) w) := by
  have h128 : decide ((s.size : Int) ≤ 128) = decide (s.size ≤ 128) := by
    rw [Bool.eq_iff_iff]; simp; omega
  generalize decide (s.size ≤ 128) = B at *
  by_cases h0 : s.size = 0
  · obtain rfl : s = ⟨#[]⟩ := empty_of_size h0
    have hB : B = true := by rw [← h128]; rfl
    subst hB
    clear h128
    go_enter Tryz.func212, Tryz.ntmps212
    go_wp2
    go_ret
    exact ⟨rfl, ((Below.refl _ _).alloc (Nat.le_refl _) _).alloc (by simp) _⟩
  · have hne := nonempty_str h0
    go_enter Tryz.func212, Tryz.ntmps212
    go_wp2
    go_ret
    exact ⟨rfl, ((Below.refl _ _).alloc (Nat.le_refl _) _).alloc (by simp) _⟩
theorem f129_of (k n : Int) (s : ByteArray) (A : Option Addr) (l c : Nat) (w : World) (b : Bool) (h : ∀ W, Calls Tryz.prog 212 #[.agg #[.int .i64 k, .int .i64 n, .string s, .slice A l c], .int .i64 1] W (Ret (.bool b) W)) :
    Calls Tryz.prog 129 #[.agg #[.int .i64 k, .int .i64 n, .string s, .slice A l c]] w (Ret (.int .i64 (ckE b)) w) := by
  have H := hide h
  clear h
  cases b
  all_goals
    go_enter Tryz.func129, Tryz.ntmps129
    go_wp2_with fail
    refine ((unhide H) _).mono ?_
    rintro e w1 ⟨rfl, h1⟩
    go_wp2
    go_ret
    exact ⟨rfl, below_box h1⟩
theorem ckOk_int (n : Int) : CkOk (vInt n) := by
  intro W v hv
  obtain ⟨_, _, _, _, A, c, rfl, _⟩ := hv
  exact f129_of 1 n ⟨#[]⟩ A 0 c W true (fun W => f212_intA n A c W)
theorem okV_str (s : List UInt8) : okV (vStr s) = decide (s.length ≤ 128) := by
  have : (⟨s.toArray⟩ : ByteArray).size = s.length := size_arr s
  unfold okV vStr mayV
  simp [this]
theorem ckOk_str (s : List UInt8) : CkOk (vStr s) := by
  intro W v hv
  obtain ⟨_, _, _, _, A, c, rfl, _⟩ := hv
  have e : (⟨s.toArray⟩ : ByteArray).size = s.length := size_arr s
  rw [okV_str, ← e]
  exact f129_of 2 0 ⟨s.toArray⟩ A 0 c W _ (fun W => f212_strA _ A c W)

set_option maxHeartbeats 8000000 in
set_option maxRecDepth 100000 in
theorem f93_of (s : ByteArray) (w : World) (hs : s.size ≤ 1048576) (hL : LdE w) (hck : ∀ y, valP 8 s.data.toList = some (y, []) → CkOk y) : Calls Tryz.prog 93 #[.string s] w (ParseR (parseV s.data.toList) w) := by
  generalize hR : parseV s.data.toList = R
  have HR := Lib.hid hR
  clear hR
  have hread := f175_read s (w.alloc (.cells #[.int .i64 0, .int .i64 0, .string ⟨#[]⟩, .slice none 0 0] 38)) hs (hL.alloc _)
  have HC := hide hck
  clear hck hL
  go_enter Tryz.func93, Tryz.ntmps93
  go_wp2_with fail
  refine hread.mono ?_
  clear hread
  rintro e w1 hr
  have hcase : badR (valP 8 s.data.toList) ∨ ∃ y, valP 8 s.data.toList = some (y, []) := by
    cases hv : valP 8 s.data.toList with
    | none => exact .inl (.inl rfl)
    | some x =>
      obtain ⟨y, l⟩ := x
      cases l with
      | nil => exact .inr ⟨y, rfl⟩
      | cons c t => exact .inl (.inr ⟨y, c, t, rfl⟩)
  rcases hcase with hbad | ⟨y, hgood⟩
  · have hRn : Hid (R = none) := by
      unfold Hid; rw [← HR.out]; unfold parseV
      rcases hbad with hb | ⟨y, c, t, hb⟩
      · rw [hb]
      · rw [hb]
    have hr2 : ∃ j : Int, e = .returned (.tuple #[v38, .int .i64 j, .bool false]) ∧ Below (w.alloc (.cells #[.int .i64 0, .int .i64 0, .string ⟨#[]⟩, .slice none 0 0] 38)).heap.size (w.alloc (.cells #[.int .i64 0, .int .i64 0, .string ⟨#[]⟩, .slice none 0 0] 38)) w1 := by
      rcases hbad with hb | ⟨y, c, t, hb⟩
      · rw [hb] at hr; exact hr
      · rw [hb] at hr; exact hr
    obtain ⟨j, rfl, h1⟩ := hr2
    clear hr hbad HR HC
    have hz1 := alloc_kept h1
    have hb1 := below_box h1
    have hl1 : w.heap.size < w1.heap.size := (Array.getElem?_eq_some_iff.1 hz1).1
    obtain ⟨hA0, gA⟩ := set4 (v0 := .int .i64 0) (v1 := .int .i64 0) (v2 := .string ⟨#[]⟩) (v3 := .slice none 0 0) hz1
    obtain ⟨⟨z0, z1, z2, z3⟩, y0, y1, y2, y3⟩ := four_of hz1
    have hA := (heap_alloc_old' _ (.cells #[.int .i64 0, .int .i64 0, .string ⟨#[]⟩, .slice none 0 0] 38) _ (Array.getElem?_eq_some_iff.1 hA0).1).trans hA0
    have hfin0 : Below w.heap.size w _ := hb1.trans (GC.below (c := w.heap.size) gA w.heap.size (Nat.le_refl _) hb1.size)
    have hfin := hfin0.alloc hfin0.size (.cells #[.int .i64 0, .int .i64 0, .string ⟨#[]⟩, .slice none 0 0] 38)
    have HF := hide hfin
    have HA := hide hA
    clear hfin hfin0 hA hA0 gA h1 hb1 hz1
    go_wp2
    refine bodyPost_ret (results_cell_tmp2 rfl _ _ ⟨w.heap.size, 0, none⟩ _ rfl (run_loadVar_row _ w.heap.size 38 38 _ (0, 0) _ (unhide HA) Tryz.underlying38 rfl (by kernel_rfl))) rfl ?_
    exact ParseR.none hRn.out j 22 rfl (by decide) (unhide HF)
  · rw [hgood] at hr
    obtain ⟨v, rfl, hv, h1⟩ := hr
    have hck := (unhide HC) y hgood
    have hRs : Hid (R = if okV y = true then some y else none) := by
      unfold Hid; rw [← HR.out]; unfold parseV; rw [hgood]
    clear HC HR hgood
    obtain ⟨ky, ny, sy, ly⟩ := y
    have hv0 := hv
    obtain ⟨_, _, _, _, AA, cc, hve, _⟩ := hv0
    subst hve
    have hz1 := alloc_kept h1
    have hb1 := below_box h1
    have hl1 : w.heap.size < w1.heap.size := (Array.getElem?_eq_some_iff.1 hz1).1
    have hv1 : VR w1 (fun b => w.heap.size ≤ b ∧ b ≠ w.heap.size) (.mk ky ny sy ly) _ := VR.mono (fun b hb _ => by simp at hb; omega) _ _ hv
    have hcall := hck (w1.alloc (.cells #[.int .i64 ky, .int .i64 ny, .string sy, .slice AA ly.length cc] 38)) _ (VR.w (VR.below hv1 ((Below.refl _ _).alloc (Nat.le_refl _) _)))
    have HCALL := hide hcall
    have HV1 := hide hv1
    clear hck hv hcall hv1
    go_wp2_with fail
    refine (unhide HCALL).mono ?_
    clear HCALL
    rintro e w2 ⟨rfl, h2⟩
    have hx2 := alloc_kept h2
    have hz2 : w2.heap[w.heap.size]? = _ := (h2.block w.heap.size (by simp; omega)).trans ((heap_alloc_old' w1 _ _ hl1).trans hz1)
    have hb12 := below_box h2
    have hb2 : Below w.heap.size w w2 := hb1.trans (hb12.mono (Nat.le_of_lt hl1))
    have hv2 := VR.below (unhide HV1) hb12
    have hne : Hid (w1.heap.size ≠ w.heap.size) := by unfold Hid; omega
    obtain ⟨b, hb⟩ : ∃ b, w.heap.size = b := ⟨_, rfl⟩
    obtain ⟨b5, hb5⟩ : ∃ b5, w1.heap.size = b5 := ⟨_, rfl⟩
    rw [hb] at hz2 hv2
    rw [hb5] at hx2
    obtain ⟨⟨x0, x1, x2, x3⟩, _⟩ := four_of hx2
    obtain ⟨⟨z0, z1, z2, z3⟩, y0, y1, y2, y3⟩ := four_of hz2
    cases hok : okV (.mk ky ny sy ly)
    · have hRn : Hid (R = none) := by unfold Hid; rw [hRs.out, hok]; rfl
      obtain ⟨hA, gA⟩ := set4 (v0 := .int .i64 0) (v1 := .int .i64 0) (v2 := .string ⟨#[]⟩) (v3 := .slice none 0 0) hz2
      have hfin : Below w.heap.size w _ := hb2.trans (GC.below (c := b) gA w.heap.size (by omega) hb2.size)
      have HF := hide hfin
      have HA := hide hA
      have e20 : ckE false = 20 := rfl
      rw [e20]
      clear e20 hok hRs hfin hA gA hb2 hz2 hz1 hx2 HV1 hv2 hb12 h2 h1 hb1
      go_wp2
      refine bodyPost_ret (results_cell_tmp2 rfl _ _ ⟨b, 0, none⟩ _ rfl (run_loadVar_row _ b 38 38 _ (0, 0) _ (unhide HA) Tryz.underlying38 rfl (by kernel_rfl))) rfl ?_
      exact ParseR.none hRn.out 0 20 rfl (by decide) (unhide HF)
    · have hRy : Hid (R = some (.mk ky ny sy ly)) := by unfold Hid; rw [hRs.out, hok]; rfl
      obtain ⟨hA, gA⟩ := set4 (v0 := .int .i64 ky) (v1 := .int .i64 ny) (v2 := .string sy) (v3 := .slice AA ly.length cc) hz2
      have hfin : Below w.heap.size w _ := hb2.trans (GC.below (c := b) gA w.heap.size (by omega) hb2.size)
      have hv3 := VR.mono (S' := fun k => w.heap.size ≤ k) (fun k hk _ => by omega) _ _ (VR.gc hv2 gA (fun h => h.2 (by omega)))
      have HF := hide hfin
      have HA := hide hA
      have HV3 := hide hv3
      have e0 : ckE true = 0 := rfl
      rw [e0]
      clear e0 hok hRs hfin hA gA hb2 hz2 hz1 hx2 HV1 hv2 hv3 hb12 h2 h1 hb1
      go_wp2
      refine bodyPost_ret (results_cell_tmp2 rfl _ _ ⟨b, 0, none⟩ _ rfl (run_loadVar_row _ b 38 38 _ (0, 0) _ (unhide HA) Tryz.underlying38 rfl (by kernel_rfl))) rfl ?_
      exact ParseR.some hRy.out rfl (unhide HV3) (unhide HF)
end Go.Proofs.YtijgmloodkbljaaGreatDoor

namespace Go.Proofs.YtijgmloodkbljaaGreatDoor
open Go Go.RowKit

/-- Behind 'one': the result's block b2 has been written four times. -/
theorem one_end {w w1 : World} {v0 v1 v2 v3 : Value} (h : Below (w.alloc (.cells #[.int .i64 0, .string ⟨#[]⟩, .int .i64 0, .int .i64 0] 24)).heap.size (w.alloc (.cells #[.int .i64 0, .string ⟨#[]⟩, .int .i64 0, .int .i64 0] 24)) w1) :
    ((((w1.setCell ⟨w.heap.size, 0, none⟩ v0).setCell ⟨w.heap.size, 1, none⟩ v1).setCell ⟨w.heap.size, 2, none⟩ v2).setCell ⟨w.heap.size, 3, none⟩ v3).heap[w.heap.size]? = some (.cells #[v0, v1, v2, v3] 24) ∧
    Below w.heap.size w ((((w1.setCell ⟨w.heap.size, 0, none⟩ v0).setCell ⟨w.heap.size, 1, none⟩ v1).setCell ⟨w.heap.size, 2, none⟩ v2).setCell ⟨w.heap.size, 3, none⟩ v3) := by
  have hz := alloc_kept h
  obtain ⟨hA, gA⟩ := set4 (v0 := v0) (v1 := v1) (v2 := v2) (v3 := v3) hz
  have hb := below_box h
  exact ⟨hA, hb.trans (GC.below (c := w.heap.size) gA w.heap.size (Nat.le_refl _) hb.size)⟩

set_option maxHeartbeats 1000000 in
set_option maxRecDepth 100000 in
theorem f228_mark (s : ByteArray) (h0 : 0 < s.size) (hs : s.size ≤ 1048576) (w : World) (hm : markB (s[0]'h0).toNat = true) :
    Calls Tryz.prog 228 #[.string s] w (OneAt ⟨4, s.extract 0 1, 0, 0⟩ 1 w) := by
  obtain ⟨hb0, hb1⟩ := byte_bounds (s[0]'h0)
  have h1s : (1 : Int) ≤ s.size := by omega
  go_enter Tryz.func228, Tryz.ntmps228
  go_wp2_with fail
  refine (f72_isMark _ _ hb0 hb1).mono ?_
  rintro e w1 ⟨rfl, rfl⟩
  rw [hm]
  go_wp2
  refine bodyPost_ret (results_cell_tmp_row rfl _ _ w.heap.size 24 #[.int .i64 4, .string (s.extract 0 1), .int .i64 0, .int .i64 0] (0, 0) _ rfl (heap_alloc_new w _) Tryz.underlying24 rfl (by kernel_rfl)) rfl ?_
  exact ⟨rfl, (Below.refl _ _).alloc (Nat.le_refl _) _⟩

set_option maxHeartbeats 1000000 in
set_option maxRecDepth 100000 in
theorem f228_name (s : ByteArray) (h0 : 0 < s.size) (hs : s.size ≤ 1048576) (w : World) (hm : markB (s[0]'h0).toNat = false) (hl : letB (s[0]'h0).toNat = true) (k : Nat) (hk : run s.data.toList = k) :
    Calls Tryz.prog 228 #[.string s] w (OneAt ⟨1, s.extract 0 k, 0, 0⟩ k w) := by
  obtain ⟨hb0, hb1⟩ := byte_bounds (s[0]'h0)
  have hks : k ≤ s.size := by rw [← hk, ← data_len]; exact run_le _
  have hks' : (k : Int) ≤ s.size := by omega
  have hk63 : (k : Int) ≤ 1048576 := by omega
  go_enter Tryz.func228, Tryz.ntmps228
  go_wp2_with fail
  refine (f72_isMark _ _ hb0 hb1).mono ?_
  rintro e w1 ⟨rfl, rfl⟩
  rw [hm]
  go_wp2_with fail
  refine (f303_isLetter _ _).mono ?_
  rintro e w2 ⟨rfl, rfl⟩
  rw [hl]
  go_wp2_with fail
  refine (f304_words s 0 _ (by omega) (by omega)).mono ?_
  rintro e w3 ⟨rfl, rfl⟩
  rw [List.drop_zero, hk]
  go_wp2
  refine bodyPost_ret (results_cell_tmp_row rfl _ _ w.heap.size 24 #[.int .i64 1, .string (s.extract 0 k), .int .i64 0, .int .i64 0] (0, 0) _ rfl (heap_alloc_new w _) Tryz.underlying24 rfl (by kernel_rfl)) rfl ?_
  exact ⟨rfl, (Below.refl _ _).alloc (Nat.le_refl _) _⟩

abbrev one2 : ByteArray := ⟨#[49, 41]⟩
theorem f93_ext (t : ByteArray) (ht : t = one1) (w : World) : Calls Tryz.prog 93 #[.string t] w (Ret (.tuple #[vOne, .int .i64 0, .int .i64 0]) w) := by
  subst ht
  exact f93_one w
set_option maxHeartbeats 1000000 in
set_option maxRecDepth 100000 in
theorem f228_one (w : World) : Calls Tryz.prog 228 #[.string one2] w (OneAt ⟨2, ⟨#[]⟩, 1, 0⟩ 1 w) := by
  have hw : run (one2.data.toList.drop 0) = 1 := by decide
  have hm : markB (49 : Int) = false := by decide
  have hl : letB (49 : Int) = false := by decide
  go_enter Tryz.func228, Tryz.ntmps228
  go_wp2_with fail
  refine (f72_isMark 49 _ (by decide) (by decide)).mono ?_
  rintro e w1 ⟨rfl, rfl⟩
  rw [hm]
  go_wp2_with fail
  refine (f303_isLetter 49 _).mono ?_
  rintro e w2 ⟨rfl, rfl⟩
  rw [hl]
  go_wp2_with fail
  refine (f304_words one2 0 _ (by decide) (by decide)).mono ?_
  rintro e w3 ⟨rfl, rfl⟩
  rw [hw]
  go_wp2_with fail
  refine (f93_ext _ (by decide +kernel) _).mono ?_
  rintro e w4 ⟨rfl, h4⟩
  obtain ⟨hA0, hF0⟩ := one_end (w := w) (w1 := w4) (v0 := .int .i64 2) (v1 := .string ⟨#[]⟩) (v2 := .int .i64 1) (v3 := .int .i64 0) h4
  have hA := (heap_alloc_old' _ (.cells #[.int .i64 1, .int .i64 1, .string ⟨#[]⟩, .slice none 0 0] 38) _ (Array.getElem?_eq_some_iff.1 hA0).1).trans hA0
  have hF := hF0.alloc hF0.size (.cells #[.int .i64 1, .int .i64 1, .string ⟨#[]⟩, .slice none 0 0] 38)
  clear hA0 hF0
  have hz := alloc_kept h4
  have hl4 : w.heap.size < w4.heap.size := (Array.getElem?_eq_some_iff.1 hz).1
  obtain ⟨⟨z0, z1, z2, z3⟩, y0, y1, y2, y3⟩ := four_of hz
  have HA := Lib.hid hA
  have HF := Lib.hid hF
  clear hA hF
  go_wp2
  refine bodyPost_ret (results_cell_tmp_row rfl _ _ w.heap.size 24 #[.int .i64 2, .string ⟨#[]⟩, .int .i64 1, .int .i64 0] (0, 0) _ rfl HA.out Tryz.underlying24 rfl (by kernel_rfl)) rfl ?_
  exact ⟨rfl, HF.out⟩
end Go.Proofs.YtijgmloodkbljaaGreatDoor

namespace Go.Proofs.YtijgmloodkbljaaGreatDoor
open Go Go.RowKit

/-- The token with which a text begins, and how many bytes it has. -/
def lexOne (l : List UInt8) : Option (Tok × Nat) :=
  match l with
  | [] => none
  | c :: r =>
    if markB c.toNat = true then some (⟨4, ⟨#[c]⟩, 0, 0⟩, 1)
    else if letB c.toNat = true then some (⟨1, ⟨(l.take (run l)).toArray⟩, 0, 0⟩, run l)
    else if c = 39 then
      match parseV (l.take (closedL r 1)) with
      | some v => if v.kind = 2 then some (⟨3, v.s, 0, 0⟩, closedL r 1) else none
      | none => none
    else
      match parseV (l.take (if c = 45 then 1 + run r else run l)) with
      | some v => if v.kind = 1 then some (⟨2, ⟨#[]⟩, v.n, 0⟩, if c = 45 then 1 + run r else run l) else none
      | none => none
def Tok.put (t : Tok) (k : Int) : Tok := ⟨t.kind, t.text, t.n, k⟩
/-- What the scanner's next step hands back from the place k on. -/
def nextT (s : ByteArray) (k : Nat) : Option (Tok × Nat) :=
  if skip s k < s.size then
    match lexOne (s.data.toList.drop (skip s k)) with
    | some y => if y.2 ≠ 0 ∧ (y.1.put (skip s k)).ok = true then some (y.1.put (skip s k), skip s k + y.2) else none
    | none => none
  else none

/-- What is printed behind a token of the kind last. -/
def restP (last : Int) : List Tok → List UInt8
  | [] => []
  | t :: l => sepL last t.kind ++ t.txt.data.toList ++ restP t.kind l
theorem fold_rest (ts : List Tok) (hok : ∀ t ∈ ts, t.ok = true) (l : List UInt8) (last : Int) : (ts.foldl stepP (l, last)).1 = l ++ restP last ts := by
  induction ts generalizing l last with
  | nil => simp [restP]
  | cons t ts ih =>
    have h1 := hok t (by simp)
    have e : stepP (l, last) t = (l ++ sepL last t.kind ++ t.txt.data.toList, t.kind) := by unfold stepP; rw [if_pos h1]
    rw [List.foldl_cons, e, ih (fun x hx => hok x (by simp [hx]))]
    simp [restP]
theorem printS_rest (ts : List Tok) (hok : ∀ t ∈ ts, t.ok = true) : (printS ts).data.toList = restP 4 ts := by
  have := fold_rest ts hok [] 4
  show ((ts.foldl stepP ([], 4)).1).toArray.toList = _
  rw [List.toList_toArray, this]
  rfl

theorem digU_word {c : UInt8} (h : digU c = true) : wordU c = true := by
  have hb := digU_bd h
  unfold wordU digB
  simp; omega
theorem run_app (l r : List UInt8) (hl : ∀ c ∈ l, wordU c = true) (hr : ∀ c x, r = c :: x → wordU c = false) : run (l ++ r) = l.length := by
  unfold run
  rw [(takeWhile_app (p := wordU) l r hl hr).1]
theorem closedL_qc (c : UInt8) (l : List UInt8) (i : Nat) : closedL (qc c ++ l) i = closedL l (i + (qc c).length) := by
  have hx : ∀ n, n < 16 → hexD n ≠ 92 ∧ hexD n ≠ 39 := by
    intro n hn
    have : ∀ k : Fin 16, hexD k.1 ≠ 92 ∧ hexD k.1 ≠ 39 := by decide
    exact this ⟨n, hn⟩
  have hlt := c.toNat_lt
  unfold qc
  by_cases h : c.toNat < 32 ∨ 126 < c.toNat
  · rw [if_pos h]
    obtain ⟨a1, a2⟩ := hx (c.toNat / 16) (by omega)
    obtain ⟨b1, b2⟩ := hx (c.toNat % 16) (by omega)
    show closedL (92 :: 120 :: hexD (c.toNat / 16) :: hexD (c.toNat % 16) :: l) i = _
    rw [closedL_cons, if_pos rfl]
    show closedL (hexD (c.toNat / 16) :: hexD (c.toNat % 16) :: l) (i + 2) = _
    rw [closedL_cons, if_neg a1, if_neg a2, closedL_cons, if_neg b1, if_neg b2]
    rfl
  · rw [if_neg h]
    by_cases h2 : c = 39 ∨ c = 92
    · rw [if_pos h2]
      show closedL (92 :: c :: l) i = _
      rw [closedL_cons, if_pos rfl]
      rfl
    · rw [if_neg h2]
      show closedL (c :: l) i = _
      rw [closedL_cons, if_neg (fun e => h2 (.inr e)), if_neg (fun e => h2 (.inl e))]
      rfl
theorem closedL_quote (s r : List UInt8) (i : Nat) : closedL (s.flatMap qc ++ 39 :: r) i = i + (s.flatMap qc).length + 1 := by
  induction s generalizing i with
  | nil => rw [List.flatMap_nil, List.nil_append, closedL_cons, if_neg (by decide), if_pos rfl]; rfl
  | cons c s ih =>
    rw [List.flatMap_cons, List.append_assoc, closedL_qc, ih, List.length_append]
    omega

theorem mark_not_word (c : UInt8) (h : markB c.toNat = true) : wordU c = false := by
  have hb : ∀ k : Fin 256, markB ((⟨⟨k⟩⟩ : UInt8).toNat) = true → wordU ⟨⟨k⟩⟩ = false := by decide +kernel
  obtain ⟨⟨k, hk⟩⟩ := c
  exact hb ⟨k, hk⟩ h
theorem mark_not_blank (c : UInt8) (h : markB c.toNat = true) : isBl c = false := by
  have hb : ∀ k : Fin 256, markB ((⟨⟨k⟩⟩ : UInt8).toNat) = true → isBl ⟨⟨k⟩⟩ = false := by decide +kernel
  obtain ⟨⟨k, hk⟩⟩ := c
  exact hb ⟨k, hk⟩ h
theorem word_facts (c : UInt8) (h : wordU c = true) : isBl c = false ∧ markB c.toNat = false ∧ c ≠ 39 ∧ c ≠ 45 := by
  have hb : ∀ k : Fin 256, wordU ⟨⟨k⟩⟩ = true → isBl ⟨⟨k⟩⟩ = false ∧ markB ((⟨⟨k⟩⟩ : UInt8).toNat) = false ∧ (⟨⟨k⟩⟩ : UInt8) ≠ 39 ∧ (⟨⟨k⟩⟩ : UInt8) ≠ 45 := by decide +kernel
  obtain ⟨⟨k, hk⟩⟩ := c
  exact hb ⟨k, hk⟩ h
theorem dig_facts (c : UInt8) (h : digU c = true) : letB c.toNat = false ∧ markB c.toNat = false := by
  have hb : ∀ k : Fin 256, digU ⟨⟨k⟩⟩ = true → letB ((⟨⟨k⟩⟩ : UInt8).toNat) = false ∧ markB ((⟨⟨k⟩⟩ : UInt8).toNat) = false := by decide +kernel
  obtain ⟨⟨k, hk⟩⟩ := c
  exact hb ⟨k, hk⟩ h
theorem okV_int (n : Int) : okV (vInt n) = true := rfl
theorem parse_int (n : Int) (h : I64n n) : parseV (Lib.itoa n) = some (vInt n) := parseV_text (vInt n) (okV_int n) ⟨h, trivial⟩
theorem parse_str (s : ByteArray) (h : s.size ≤ 128) : parseV (quoteL s.data.toList) = some (vStr s.data.toList) := by
  have e : vStr s.data.toList = .mk 2 0 s [] := by simp [vStr]
  rw [e]
  have ho : okV (.mk 2 0 s []) = true := by simp [okV, mayV, h]
  exact parseV_text (.mk 2 0 s []) ho ⟨⟨by decide, by decide⟩, trivial⟩

/-- What a token's text may be followed by. -/
def follows (k : Int) (r : List UInt8) : Prop := k = 1 ∨ k = 2 → ∀ c x, r = c :: x → wordU c = false
theorem take_app_len (a b : List UInt8) : (a ++ b).take a.length = a := by simp
theorem kindOk_cases {k : Int} {s : List UInt8} (h : kindOk k s = true) : (k = 1 ∧ nameL s = true) ∨ (k = 2 ∧ s = []) ∨ (k = 3 ∧ s.length ≤ 128) ∨ (k = 4 ∧ ∃ c, s = [c] ∧ markB c.toNat = true) := by
  unfold kindOk at h
  split at h
  · exact .inl ⟨by assumption, h⟩
  · split at h
    · exact .inr (.inl ⟨by assumption, by simpa using h⟩)
    · split at h
      · exact .inr (.inr (.inl ⟨by assumption, by simpa using h⟩))
      · split at h
        · refine .inr (.inr (.inr ⟨by assumption, ?_⟩))
          split at h
          · rename_i c; exact ⟨c, rfl, h⟩
          · cases h
        · cases h
theorem ok_parts {t : Tok} (h : t.ok = true) : 0 ≤ t.pos ∧ (t.n = 0 ∨ t.kind = 2) ∧ kindOk t.kind t.text.data.toList = true := by
  unfold Tok.ok at h
  simp only [Bool.and_eq_true, decide_eq_true_eq] at h
  exact ⟨h.1.1, h.1.2, h.2⟩
theorem name_facts {s : List UInt8} (h : nameL s = true) : ∃ c r, s = c :: r ∧ letB c.toNat = true ∧ ∀ x ∈ s, wordU x = true := by
  unfold nameL at h
  simp only [Bool.and_eq_true, decide_eq_true_eq, List.all_eq_true] at h
  obtain ⟨⟨⟨h1, _⟩, h2⟩, h3⟩ := h
  cases s with
  | nil => exact absurd rfl h1
  | cons c r => exact ⟨c, r, rfl, h2, h3⟩
theorem arr_of (s : ByteArray) : (⟨s.data.toList.toArray⟩ : ByteArray) = s := by simp
/-- A token is read from its text. -/
theorem lexOne_txt (t : Tok) (hok : t.ok = true) (hn : I64n t.n) (r : List UInt8) (hr : follows t.kind r) :
    lexOne (t.txt.data.toList ++ r) = some (t.put 0, t.txt.data.toList.length) ∧ ∃ c x, t.txt.data.toList = c :: x ∧ isBl c = false := by
  obtain ⟨_, hn0, hk⟩ := ok_parts hok
  obtain ⟨tk, tt, tn, tp⟩ := t
  dsimp only at hn0 hk hn hr
  rcases kindOk_cases hk with ⟨rfl, h⟩ | ⟨rfl, h⟩ | ⟨rfl, h⟩ | ⟨rfl, c, h, hm⟩
  · -- a name
    obtain rfl : tn = 0 := by omega
    have ht : (Tok.txt ⟨1, tt, 0, tp⟩) = tt := by unfold Tok.txt; rw [if_pos hok]; simp
    rw [ht]
    obtain ⟨c, x, hc, hl, hw⟩ := name_facts h
    have hwc := word_facts c (hw c (by rw [hc]; simp))
    have hrun := run_app tt.data.toList r hw (hr (.inl rfl))
    refine ⟨?_, c, x, hc, hwc.1⟩
    unfold lexOne
    have e : tt.data.toList ++ r = c :: (x ++ r) := by rw [hc]; rfl
    split
    · rename_i h0; rw [e] at h0; cases h0
    · rename_i c' r' h0
      rw [e] at h0
      obtain ⟨rfl, rfl⟩ := List.cons.inj h0
      rw [if_neg (by rw [hwc.2.1]; decide), if_pos hl, hrun, take_app_len, arr_of]
      rfl
  · -- a number
    obtain rfl : tt = ⟨#[]⟩ := empty_of_size (by rw [← data_len, h]; rfl)
    have ht : (Tok.txt ⟨2, ⟨#[]⟩, tn, tp⟩).data.toList = Lib.itoa tn := by unfold Tok.txt; rw [if_pos hok]; simp [decS]
    rw [ht]
    have hdig : ∀ u, (∀ c ∈ Lib.decDigits u, digU c = true) := fun u => (decDigits_facts u).2.1
    by_cases hneg : tn < 0
    · have e1 : Lib.itoa tn = 45 :: Lib.decDigits tn.natAbs := by unfold Lib.itoa; rw [if_pos hneg]
      have hrun : run (Lib.decDigits tn.natAbs ++ r) = (Lib.decDigits tn.natAbs).length := run_app _ r (fun c hc => digU_word (hdig _ c hc)) (hr (.inr rfl))
      refine ⟨?_, 45, Lib.decDigits tn.natAbs, e1, by decide⟩
      have hp := parse_int tn hn
      rw [e1] at hp ⊢
      show lexOne (45 :: (Lib.decDigits tn.natAbs ++ r)) = _
      unfold lexOne
      dsimp only
      rw [if_neg (by decide), if_neg (by decide), if_neg (by decide)]
      simp only [if_true]
      rw [hrun]
      have e2 : (45 :: (Lib.decDigits tn.natAbs ++ r)).take (1 + (Lib.decDigits tn.natAbs).length) = 45 :: Lib.decDigits tn.natAbs := by
        rw [show 1 + (Lib.decDigits tn.natAbs).length = (Lib.decDigits tn.natAbs).length + 1 by omega, List.take_succ_cons, take_app_len]
      rw [e2, hp]
      dsimp only
      rw [if_pos (show (vInt tn).kind = 1 from rfl)]
      simp [Tok.put, vInt, Val.n]
      omega
    · have e1 : Lib.itoa tn = Lib.decDigits tn.toNat := by unfold Lib.itoa; rw [if_neg hneg]
      have hrun : run (Lib.decDigits tn.toNat ++ r) = (Lib.decDigits tn.toNat).length := run_app _ r (fun c hc => digU_word (hdig _ c hc)) (hr (.inr rfl))
      obtain ⟨_, _, c, x, hcx, _⟩ := decDigits_facts tn.toNat
      have hdc : digU c = true := hdig tn.toNat c (by rw [hcx]; simp)
      have hf := dig_facts c hdc
      have hw := word_facts c (digU_word hdc)
      have hp := parse_int tn hn
      rw [e1] at hp ⊢
      refine ⟨?_, c, x, hcx, hw.1⟩
      have e : Lib.decDigits tn.toNat ++ r = c :: (x ++ r) := by rw [hcx]; rfl
      unfold lexOne
      split
      · rename_i h0; rw [e] at h0; cases h0
      · rename_i c' r' h0
        rw [e] at h0
        obtain ⟨rfl, rfl⟩ := List.cons.inj h0
        rw [if_neg (by rw [hf.2]; decide), if_neg (by rw [hf.1]; decide), if_neg hw.2.2.1]
        simp only [if_neg hw.2.2.2]
        rw [hrun, take_app_len, hp]
        dsimp only
        rw [if_pos (show (vInt tn).kind = 1 from rfl)]
        rfl
  · -- a string
    obtain rfl : tn = 0 := by omega
    have hsz : tt.size ≤ 128 := by rw [← data_len]; exact h
    have ht : (Tok.txt ⟨3, tt, 0, tp⟩).data.toList = quoteL tt.data.toList := by unfold Tok.txt; rw [if_pos hok]; simp [quoteS]
    rw [ht]
    refine ⟨?_, 39, _, rfl, by decide⟩
    have hq : quoteL tt.data.toList ++ r = 39 :: (tt.data.toList.flatMap qc ++ 39 :: r) := by unfold quoteL; simp
    have hcl := closedL_quote tt.data.toList r 1
    have hlen : (quoteL tt.data.toList).length = 1 + (tt.data.toList.flatMap qc).length + 1 := by unfold quoteL; simp; omega
    have htake := take_app_len (quoteL tt.data.toList) r
    rw [hq] at htake
    rw [hq]
    unfold lexOne
    dsimp only
    rw [if_neg (by decide), if_neg (by decide), if_pos rfl, hcl, ← hlen, htake, parse_str tt hsz]
    dsimp only
    rw [if_pos (show (vStr tt.data.toList).kind = 2 from rfl)]
    simp [Tok.put, vStr, Val.s]
  · -- a mark
    obtain rfl : tn = 0 := by omega
    have hx : tt = ⟨#[c]⟩ := by
      obtain ⟨a⟩ := tt
      have : a = #[c] := by apply Array.ext'; simpa using h
      rw [this]
    subst hx
    have ht : (Tok.txt ⟨4, ⟨#[c]⟩, 0, tp⟩) = ⟨#[c]⟩ := by unfold Tok.txt; rw [if_pos hok]; simp
    rw [ht]
    refine ⟨?_, c, [], rfl, mark_not_blank c hm⟩
    show lexOne (c :: r) = _
    unfold lexOne
    dsimp only
    rw [if_pos hm]
    rfl
end Go.Proofs.YtijgmloodkbljaaGreatDoor
