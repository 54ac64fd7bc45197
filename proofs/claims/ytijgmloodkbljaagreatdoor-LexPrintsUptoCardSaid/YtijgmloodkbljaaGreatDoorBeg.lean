import Derived.Test.YtijgmloodkbljaaGreatDoorOne
import Derived.Test.YtijgmloodkbljaaGreatDoorLex
namespace Go.Proofs.YtijgmloodkbljaaGreatDoor
open Go Go.RowKit

abbrev gV : ByteArray := ⟨#[103, 46, 86, 40, 49, 41]⟩
def bTok : Nat → Tok
  | 0 => ⟨1, ⟨#[103]⟩, 0, 0⟩
  | 1 => ⟨4, ⟨#[46]⟩, 0, 1⟩
  | 2 => ⟨1, ⟨#[86]⟩, 0, 2⟩
  | 3 => ⟨4, ⟨#[40]⟩, 0, 3⟩
  | 4 => ⟨2, ⟨#[]⟩, 1, 4⟩
  | _ => ⟨4, ⟨#[41]⟩, 0, 5⟩
def bNx (k : Nat) : Option (Tok × Nat) := if k < 6 then some (bTok k, k + 1) else none
theorem bSkip (k : Nat) (hk : k ≤ 6) : skip gV k = k := by
  have e : gV.size = 6 := rfl
  rw [skip]
  have hall : ∀ i : Fin 6, isBl (gV.data.toList.getD i.1 0) = false := by decide
  by_cases h : k < gV.size
  · have hb : isBl gV[k] = false := by
      have h1 := hall ⟨k, by omega⟩
      rw [← getD_at gV k h]
      exact h1
    rw [dif_pos h, hb]
    rfl
  · rw [dif_neg h]

theorem bOne (k : Nat) (hk : k < 6) (w : World) : Calls Tryz.prog 228 #[.string (gV.extract k gV.size)] w (OneAt (bTok k) 1 w) := by
  have : k = 0 ∨ k = 1 ∨ k = 2 ∨ k = 3 ∨ k = 4 ∨ k = 5 := by omega
  rcases this with rfl | rfl | rfl | rfl | rfl | rfl
  · have e : gV.extract 0 gV.size = ⟨#[103, 46, 86, 40, 49, 41]⟩ := by decide +kernel
    rw [e]
    exact f228_name _ (by decide) (by decide) w (by decide) (by decide) 1 (by decide)
  · have e : gV.extract 1 gV.size = ⟨#[46, 86, 40, 49, 41]⟩ := by decide +kernel
    rw [e]
    exact f228_mark _ (by decide) (by decide) w (by decide)
  · have e : gV.extract 2 gV.size = ⟨#[86, 40, 49, 41]⟩ := by decide +kernel
    rw [e]
    exact f228_name _ (by decide) (by decide) w (by decide) (by decide) 1 (by decide)
  · have e : gV.extract 3 gV.size = ⟨#[40, 49, 41]⟩ := by decide +kernel
    rw [e]
    exact f228_mark _ (by decide) (by decide) w (by decide)
  · have e : gV.extract 4 gV.size = ⟨#[49, 41]⟩ := by decide +kernel
    rw [e]
    exact f228_one w
  · have e : gV.extract 5 gV.size = ⟨#[41]⟩ := by decide +kernel
    rw [e]
    exact f228_mark _ (by decide) (by decide) w (by decide)

theorem bNext (c k : Nat) (hc : 8 ≤ c) (hk : k ≤ gV.size) : NextOk c gV k (bNx k) 6 := by
  intro w h hL
  have e : gV.size = 6 := rfl
  by_cases h6 : k < 6
  · have hx : bNx k = some (bTok k, k + 1) := by unfold bNx; rw [if_pos h6]
    rw [hx]
    have : k = 0 ∨ k = 1 ∨ k = 2 ∨ k = 3 ∨ k = 4 ∨ k = 5 := by omega
    exact f161_some c gV k k 1 (bTok k) w h (by omega) (by decide) hL hc (bSkip k (by omega)) (by omega) (fun W _ => bOne k h6 W)
      (by rcases this with rfl | rfl | rfl | rfl | rfl | rfl <;> decide) (by rcases this with rfl | rfl | rfl | rfl | rfl | rfl <;> rfl) (by rcases this with rfl | rfl | rfl | rfl | rfl | rfl <;> decide) (by omega) (by omega)
  · have hx : bNx k = none := by unfold bNx; rw [if_neg h6]
    rw [hx]
    obtain rfl : k = 6 := by omega
    exact f161_end c gV 6 6 w h (by decide) (by decide) (bSkip 6 (by omega)) (by decide)

theorem bRun (xs : List Tok) (j : Nat) (h : Run bNx 0 xs j) : j ≤ 6 ∧ xs = (List.range j).map bTok := by
  induction h with
  | nil => exact ⟨by omega, rfl⟩
  | @snoc xs j j' t _ hx ih =>
    unfold bNx at hx
    by_cases h6 : j < 6
    · rw [if_pos h6] at hx
      simp only [Option.some.injEq, Prod.mk.injEq] at hx
      obtain ⟨rfl, rfl⟩ := hx
      refine ⟨by omega, ?_⟩
      rw [ih.2, List.range_succ, List.map_append]
      rfl
    · rw [if_neg h6] at hx; cases hx

set_option maxHeartbeats 2000000 in
set_option maxRecDepth 100000 in
theorem f19_begun (w : World) (hL : Laid w) : Calls Tryz.prog 19 #[] w (Ret (.bool true) w) := by
  have h22 := callsIn_wide.1 (f22_Lex 3 gV w (by decide) hL bNx (fun _ => 6) (fun c k hc hk => bNext c k hc hk) (fun k t j h => by
    unfold bNx at h
    by_cases h6 : k < 6
    · rw [if_pos h6] at h
      simp only [Option.some.injEq, Prod.mk.injEq] at h
      obtain ⟨_, rfl⟩ := h
      exact ⟨by omega, by show k + 1 ≤ 6; omega⟩
    · rw [if_neg h6] at h; cases h) (fun k hk => by show 6 ≤ 6; omega))
  go_enter Tryz.func19, Tryz.ntmps19
  go_wp2_with fail
  refine h22.mono ?_
  rintro e w1 ⟨v, at_, code, rfl, hb, hcase⟩
  rcases hcase with ⟨rfl, rfl, xs, j, hrun, hnx, hj, _, _, hown⟩ | ⟨_, xs, j, hrun, hlen⟩ | ⟨_, xs, j, hrun, hnx, hj, hsk⟩
  · obtain ⟨hj6, rfl⟩ := bRun xs j hrun
    have hj66 : j = 6 := by
      unfold bNx at hnx
      by_cases h6 : j < 6
      · rw [if_pos h6] at hnx; cases hnx
      · omega
    subst hj66
    have hcell : ∀ g cap, v = .slice (some ⟨g, 0, none⟩) 6 cap → ∀ i u, (((List.range 6).map bTok).flatMap tcells)[i]? = some u → w1.cell? ⟨g, i, none⟩ = some u := by
      intro g cap hv i u hu
      have hc := World.ownsRow.cells hown (g := g) (by rw [hv]; rfl) i u hu
      have ha : (⟨g, 0, none⟩ : Addr).add i = ⟨g, 0 + i, none⟩ := by unfold Addr.add; split <;> simp_all
      rwa [ha, Nat.zero_add] at hc
    rcases hown.2 with ⟨_, h0⟩ | ⟨g, cap, cur, hv, _⟩
    · simp at h0
    · have hv' : v = .slice (some ⟨g, 0, none⟩) 6 cap := by rw [hv]; rfl
      have k0 := hcell g cap hv' 16 (.int .i64 2) rfl
      have k1 := hcell g cap hv' 17 (.string ⟨#[]⟩) rfl
      have k2 := hcell g cap hv' 18 (.int .i64 1) rfl
      have k3 := hcell g cap hv' 19 (.int .i64 4) rfl
      clear hcell hown hv
      subst hv'
      go_wp2
      go_ret
      exact ⟨rfl, hb⟩
  · obtain ⟨hj6, rfl⟩ := bRun xs j hrun
    rw [List.length_map, List.length_range] at hlen
    omega
  · exfalso
    rw [bSkip 6 (by omega)] at hsk
    exact absurd hsk (by decide)
end Go.Proofs.YtijgmloodkbljaaGreatDoor
