import Derived.Test.YtijgmloodkbljaaGreatDoorNxt
import Derived.Defers
import Derived.Recover
import Derived.Handy
import Derived.Deep.RegionWith
namespace Go.Proofs.YtijgmloodkbljaaGreatDoor
open Go Go.RowKit

/-- The reader at block r: the text, and where it stands. -/
def RdAt (r : Nat) (s : ByteArray) (k : Nat) (w : World) : Prop := w.heap[r]? = some (.cells #[.string s, .int .i64 (k : Int)] 265)
theorem RdAt.set {c : Nat} {s : ByteArray} {k : Nat} {w : World} (h : RdAt c s k w) (j : Nat) : RdAt c s j (w.setCell ⟨c, 1, none⟩ (.int .i64 (j : Int))) ∧ GC c w (w.setCell ⟨c, 1, none⟩ (.int .i64 (j : Int))) :=
  setCell_block w c 1 _ _ _ h

set_option maxHeartbeats 1000000 in
theorem f309_in (r : Nat) (s : ByteArray) (k : Nat) (w : World) (h : RdAt r s k w) (hk : k < s.size) :
    Calls Tryz.prog 309 #[.pointer (some ⟨r, 0, none⟩)] w (Ret (.int .u8 (s[k]'hk).toNat) w) := by
  have c0 : w.cell? ⟨r, 0, none⟩ = some (.string s) := Lib.cell_of_heap h 0
  have c1 : w.cell? ⟨r, 1, none⟩ = some (.int .i64 k) := Lib.cell_of_heap h 1
  have hlt : (k : Int) < s.size := by omega
  go_enter Tryz.func309, Tryz.ntmps309
  go_wp2
  go_quiet (fail)
  go_wp2
  generalize hw2 : w.drewN _ = w2
  have d0 : w2.cell? ⟨r, 0, none⟩ = some (.string s) := by rw [← hw2]; exact c0
  have d1 : w2.cell? ⟨r, 1, none⟩ = some (.int .i64 k) := by rw [← hw2]; exact c1
  have hb : Below w.heap.size w w2 := by rw [← hw2]; exact ⟨rfl, rfl, rfl, Nat.le_refl _, fun _ _ => rfl⟩
  clear hw2 c0 c1
  go_quiet (fail)
  go_wp2
  go_ret
  exact ⟨rfl, ⟨hb.os, hb.tape, hb.output, hb.size, hb.block⟩⟩
set_option maxHeartbeats 1000000 in
theorem f309_end (r : Nat) (s : ByteArray) (k : Nat) (w : World) (h : RdAt r s k w) (hk : s.size ≤ k) :
    Calls Tryz.prog 309 #[.pointer (some ⟨r, 0, none⟩)] w (Ret (.int .u8 0) w) := by
  have c0 : w.cell? ⟨r, 0, none⟩ = some (.string s) := Lib.cell_of_heap h 0
  have c1 : w.cell? ⟨r, 1, none⟩ = some (.int .i64 k) := Lib.cell_of_heap h 1
  have hlt : (s.size : Int) ≤ k := by omega
  go_enter Tryz.func309, Tryz.ntmps309
  go_wp2
  go_quiet (fail)
  go_wp2
  go_ret
  exact ⟨rfl, ⟨rfl, rfl, rfl, Nat.le_refl _, fun _ _ => rfl⟩⟩
abbrev one1 : ByteArray := ⟨#[49]⟩

set_option maxHeartbeats 2000000 in
theorem f255_one (g : Nat) (cap : Nat) (w : World) (h : w.cell? ⟨g, 0, none⟩ = some (.int .u8 49)) : Calls Tryz.prog 255 #[.slice (some ⟨g, 0, none⟩) 1 cap, .func (.func 193) #[] #[]] w (Same (.int .i64 (-1)) w) := by
  go_enter Tryz.func255, Tryz.ntmps255
  go_wp2
  go_rounds 2
  all_goals go_wp2
  go_ret
  exact ⟨rfl, rfl⟩
theorem f192_one (g : Nat) (cap : Nat) (w : World) (h : w.cell? ⟨g, 0, none⟩ = some (.int .u8 49)) : Calls Tryz.prog 192 #[.slice (some ⟨g, 0, none⟩) 1 cap, .func (.func 193) #[] #[]] w (Same (.bool false) w) := by
  go_enter Tryz.func192, Tryz.ntmps192
  go_wp2_with (go_at_call 255; refine (f255_one g cap w h).mono ?_; rintro e w1 ⟨rfl, rfl⟩)
  go_ret
  exact ⟨rfl, rfl⟩
theorem bytesW_below (w : World) (t : ByteArray) : Below w.heap.size w (Lib.bytesWorld w 5 t) := ⟨rfl, rfl, rfl, by rw [Lib.bytesWorld_size]; omega, fun k hk => Lib.bytesWorld_at_old w 5 t k hk⟩
theorem f194_one (w : World) : Calls Tryz.prog 194 #[.string one1, .int .i64 10, .int .i64 64] w (Ret (.tuple #[.int .i64 1, .nilIface]) w) :=
  (Tryz.strconv_ParseInt_10_at64_ok one1 (by decide) 1 (by decide +kernel) w).mono fun e w' ⟨he, hw⟩ => ⟨he, by
    rcases hw with rfl | ⟨t, rfl⟩
    · exact Below.refl _ _
    · exact bytesW_below _ _⟩

set_option maxHeartbeats 2000000 in
set_option maxRecDepth 100000 in
theorem f113_one (w : World) : Calls Tryz.prog 113 #[.string one1] w (Ret (.tuple #[.int .i64 1, .int .i64 0]) w) := by
  have hcv := fun W => Lib.run_convert_string_bytes (P := Tryz.prog) W 9 65 5 one1 Tryz.underlying9 Tryz.underlying65 Tryz.underlying5
  have hc : (Lib.bytesWorld w 5 one1).cell? ⟨w.heap.size, 0, none⟩ = some (.int .u8 49) := Lib.bytesWorld_cell w 5 one1 0 (by decide)
  have hb := bytesW_below w one1
  go_enter Tryz.func113, Tryz.ntmps113
  go_wp2_with (go_at_call 192; refine (f192_one _ _ _ hc).mono ?_; rintro e w1 ⟨rfl, rfl⟩)
  generalize Lib.bytesWorld w 5 one1 = W1 at *
  go_wp2_with fail
  refine (f194_one _).mono ?_
  rintro e w2 ⟨rfl, hb2⟩
  go_wp2
  go_ret2
  exact ⟨rfl, hb.trans (hb2.mono hb.size)⟩

theorem f113_ext (t : ByteArray) (ht : t = one1) (w : World) : Calls Tryz.prog 113 #[.string t] w (Ret (.tuple #[.int .i64 1, .int .i64 0]) w) := by
  subst ht
  exact f113_one w

/-- recover finds nothing: it turns nothing. -/
theorem f235_idle (p q r : Addr) (w : World) : CallsD Tryz.prog 235 #[.pointer (some p), .pointer (some q), .pointer (some r)] .returning w fun e u' w' => e = .returned (.tuple #[]) ∧ u' = .returning ∧ w' = w := by
  refine callsD_of_wpS Tryz.func235 rfl fun c₀ cs hu => ?_
  apply wpS_seq
  apply wpS_region
  simp [wpOpsS, go_sem, recoverD, hu, Tryz.ntmps235, Exit.thenS]
  apply wpS_seq
  apply wpS_seq
  apply wpS_region
  simp [wpOpsS, go_sem, Exit.thenS]
  refine wpS_cond (t := true) (by simp [Act.eval, Array.replicate]) ?_
  simp only [if_true]
  refine wpS_of_wp (wp_ret ?_)
  cases c₀
  simp_all [bodyPostS, results, Tryz.f235, Exit.thenS]

theorem RdAt.below {r k : Nat} {s : ByteArray} {w w' : World} (h : RdAt r s k w) (hb : Below w.heap.size w w') : RdAt r s k w' := (hb.block r (Array.getElem?_eq_some_iff.1 h).1).trans h
def RetR (v : Value) (r : Nat) (s : ByteArray) (k : Nat) (w : World) (e : Ending) (w' : World) : Prop := e = .returned v ∧ RdAt r s k w' ∧ GC r w w'

theorem f309_one (r : Nat) (w : World) (h : RdAt r one1 0 w) : Calls Tryz.prog 309 #[.pointer (some ⟨r, 0, none⟩)] w (Ret (.int .u8 49) w) := f309_in r one1 0 w h (by decide)
theorem ext1 : one1.extract 0 1 = one1 := by decide +kernel
set_option maxHeartbeats 4000000 in
set_option maxRecDepth 100000 in
theorem f311_one (r : Nat) (w : World) (h : RdAt r one1 0 w) : Calls Tryz.prog 311 #[.pointer (some ⟨r, 0, none⟩)] w (RetR (.int .i64 1) r one1 1 w) := by
  have c0 : w.cell? ⟨r, 0, none⟩ = some (.string one1) := Lib.cell_of_heap h 0
  have c1 : w.cell? ⟨r, 1, none⟩ = some (.int .i64 0) := Lib.cell_of_heap h 1
  go_enter Tryz.func311, Tryz.ntmps311
  go_wp2_with (go_at_call 309; refine (f309_one r _ h).mono ?_)
  rintro e w1 ⟨rfl, h1⟩
  have hr1 := h.below h1
  clear c0 c1
  have c0 : w1.cell? ⟨r, 0, none⟩ = some (.string one1) := Lib.cell_of_heap hr1 0
  have c1 : w1.cell? ⟨r, 1, none⟩ = some (.int .i64 0) := Lib.cell_of_heap hr1 1
  go_wp2_with fail
  refine (f309_one r _ hr1).mono ?_
  rintro e w2 ⟨rfl, h2⟩
  have hr2 := hr1.below h2
  go_wp2_with fail
  refine (f310_digit 49 _).mono ?_
  rintro e w2' ⟨rfl, rfl⟩
  have hd49 : digB 49 = true := by decide
  have hd0 : digB 0 = false := by decide
  rw [hd49]
  go_wp2
  have hb2 : Below w.heap.size w w2 := h1.trans (h2.mono h1.size)
  have hrl : r < w.heap.size := (Array.getElem?_eq_some_iff.1 h).1
  clear c0 c1
  go_loopw [5] (fun v wr => (v = .int .i64 0 ∧ RdAt r one1 0 wr ∧ GC r w wr) ∨ (v = .int .i64 1 ∧ RdAt r one1 1 wr ∧ GC r w wr)) (fun v _ => 1 - (intOf v).toNat)
  case atStart => exact .inl ⟨rfl, hr2, GC.of_below hb2⟩
  case round =>
    rcases hrel with ⟨rfl, hr3, hg3⟩ | ⟨rfl, hr3, hg3⟩
    · go_wp2_with fail
      refine (f309_one r _ hr3).mono ?_
      rintro e w3 ⟨rfl, h3⟩
      have hr4 := hr3.below h3
      have hg4 := hg3.trans (GC.of_below h3)
      go_wp2_with fail
      refine (f310_digit 49 _).mono ?_
      rintro e w4 ⟨rfl, rfl⟩
      rw [hd49]
      have c0 : w3.cell? ⟨r, 0, none⟩ = some (.string one1) := Lib.cell_of_heap hr4 0
      have c1 : w3.cell? ⟨r, 1, none⟩ = some (.int .i64 0) := Lib.cell_of_heap hr4 1
      go_wp2
      go_region_with (go_at_call 113; refine (f113_ext _ (by decide +kernel) _).mono ?_; rintro e w5 ⟨rfl, h5⟩)
      all_goals
        have hr5 : RdAt r one1 0 w5 := RdAt.below (w := w3.drew) hr4 h5
        have hg5 : GC r w w5 := hg4.trans ⟨h5.os, h5.tape, h5.output, h5.size, fun k hk _ => h5.block k hk⟩
        have k1 : w5.cell? ⟨r, 1, none⟩ = some (.int .i64 0) := Lib.cell_of_heap hr5 1
        have kf : w5.frozen? ⟨r, 1, none⟩ = false := Lib.frozen_of_heap hr5 1
        obtain ⟨hr6, hg6⟩ := hr5.set 1
        have hfin : RdAt r one1 1 (w5.setCell ⟨r, 1, none⟩ (.int .i64 1)) ∧ GC r w (w5.setCell ⟨r, 1, none⟩ (.int .i64 1)) := ⟨hr6, hg5.trans hg6⟩
        clear hr6 hg6
        go_wp2
        go_roundw
        case rel => exact .inr ⟨rfl, hfin⟩
        case measure => simp [intOf]
    · go_wp2_with fail
      refine (f309_end r one1 1 _ hr3 (by decide)).mono ?_
      rintro e w3 ⟨rfl, h3⟩
      go_wp2_with fail
      refine (f310_digit 0 _).mono ?_
      rintro e w4 ⟨rfl, rfl⟩
      rw [hd0]
      have hfin : RdAt r one1 1 w3 ∧ GC r w w3 := ⟨hr3.below h3, hg3.trans (GC.of_below h3)⟩
      go_wp2
      go_ret
      exact ⟨rfl, hfin⟩
end Go.Proofs.YtijgmloodkbljaaGreatDoor
