import Derived.Test.YtijgmloodkbljaaGreatDoorLbG
namespace Go.Proofs.YtijgmloodkbljaaGreatDoor
open Go

theorem digU_bd {c : UInt8} (h : digU c = true) : 48 ≤ c.toNat ∧ c.toNat ≤ 57 := by simpa [digU] using h
theorem ofNat_dig {c : UInt8} (h : digU c = true) : UInt8.ofNat (48 + (c.toNat - 48)) = c := by
  have := digU_bd h
  rw [show 48 + (c.toNat - 48) = c.toNat by omega]
  simp
theorem decDigits_decV (l : List UInt8) (hl : ∀ c ∈ l, digU c = true) (hh : ∃ c x, l = c :: x ∧ c ≠ 48) : Lib.decDigits (decV l) = l ∧ 0 < decV l := by
  induction hn : l.length using Nat.strongRecOn generalizing l with
  | _ n ih =>
    obtain ⟨c, x, rfl, hc⟩ := hh
    rcases List.eq_nil_or_concat x with rfl | ⟨i, e, rfl⟩
    · have hd := hl c (by simp)
      have hb := digU_bd hd
      have hv : decV [c] = c.toNat - 48 := by simp [decV]
      have h48 : c.toNat ≠ 48 := fun e => hc (UInt8.toNat_inj.1 e)
      rw [hv, Lib.decDigits, dif_pos (by omega), ofNat_dig hd]
      exact ⟨rfl, by omega⟩
    · have hd := hl e (by simp)
      have hb := digU_bd hd
      have e1 : (c :: (i.concat e)) = (c :: i) ++ [e] := by simp
      have hi := ih (c :: i).length (by rw [← hn]; simp) (c :: i) (fun y hy => hl y (by simp only [List.concat_eq_append, List.mem_cons, List.mem_append] at hy ⊢; rcases hy with h | h <;> simp [h])) ⟨c, i, rfl, hc⟩ rfl
      rw [e1, decV_snoc, Lib.decDigits, dif_neg (by omega)]
      have q1 : (decV (c :: i) * 10 + (e.toNat - 48)) / 10 = decV (c :: i) := by omega
      have q2 : (decV (c :: i) * 10 + (e.toNat - 48)) % 10 = e.toNat - 48 := by omega
      rw [q1, q2, hi.1, ofNat_dig hd]
      exact ⟨rfl, by omega⟩
theorem mem_tw {p : UInt8 → Bool} {l : List UInt8} {y : UInt8} (h : y ∈ l.takeWhile p) : p y = true := by
  induction l with
  | nil => cases h
  | cons a l ih =>
    rw [List.takeWhile_cons] at h
    split at h
    · rename_i ha
      rcases List.mem_cons.1 h with rfl | h
      · exact ha
      · exact ih h
    · cases h
/-- What is read off as a number is that number's text. -/
theorem numP_inv {l r : List UInt8} {n : Int} (h : numP l = some (n, r)) : l = Lib.itoa n ++ r ∧ -9223372036854775808 ≤ n ∧ n ≤ 9223372036854775807 := by
  have main : ∀ (d : List UInt8) (c : UInt8) (x : List UInt8), d = c :: x → digU c = true → c ≠ 48 → Lib.decDigits (decV (d.takeWhile digU)) = d.takeWhile digU ∧ 0 < decV (d.takeWhile digU) := by
    intro d c x hd hc h48
    have : d.takeWhile digU = c :: x.takeWhile digU := by rw [hd, List.takeWhile_cons, if_pos hc]
    refine decDigits_decV _ (fun y hy => ?_) ⟨c, _, this, h48⟩
    exact mem_tw hy
  unfold numP at h
  by_cases hneg : (l.head? == some (45 : UInt8)) = true
  · rw [hneg] at h
    simp only [if_true] at h
    obtain ⟨t, rfl⟩ : ∃ t, l = 45 :: t := by
      cases l with
      | nil => simp at hneg
      | cons a t => exact ⟨t, by simp at hneg; rw [hneg]⟩
    rw [List.tail_cons] at h
    split at h
    · cases h
    · rename_i c x
      split at h
      · cases h
      · rename_i hd
        have hd : digU c = true := by simpa using hd
        split at h
        · cases h
        · rename_i h48
          obtain ⟨m1, m2⟩ := main _ c x rfl hd h48
          split at h
          · simp only [Option.some.injEq, Prod.mk.injEq] at h
            obtain ⟨rfl, rfl⟩ := h
            unfold Lib.itoa
            rw [if_pos (by omega)]
            have e : (-(decV ((c :: x).takeWhile digU) : Int)).natAbs = decV ((c :: x).takeWhile digU) := by omega
            rw [e, m1]
            refine ⟨?_, by omega, by omega⟩
            rw [List.cons_append, List.takeWhile_append_dropWhile]
          · cases h
  · rw [Bool.not_eq_true] at hneg
    rw [hneg] at h
    simp only [Bool.false_eq_true, if_false] at h
    split at h
    · cases h
    · rename_i c x
      split at h
      · cases h
      · rename_i hd
        have hd : digU c = true := by simpa using hd
        split at h
        · rename_i h48
          simp only [Option.some.injEq, Prod.mk.injEq] at h
          obtain ⟨rfl, rfl⟩ := h
          refine ⟨?_, by omega, by omega⟩
          rw [h48]
          unfold Lib.itoa
          rw [if_neg (by omega), Lib.decDigits, dif_pos (by decide)]
          rfl
        · rename_i h48
          obtain ⟨m1, m2⟩ := main _ c x rfl hd h48
          split at h
          · simp only [Option.some.injEq, Prod.mk.injEq] at h
            obtain ⟨rfl, rfl⟩ := h
            unfold Lib.itoa
            rw [if_neg (by omega)]
            have e : ((decV ((c :: x).takeWhile digU) : Int)).toNat = decV ((c :: x).takeWhile digU) := by omega
            rw [e, m1]
            refine ⟨?_, by omega, by omega⟩
            rw [List.takeWhile_append_dropWhile]
          · cases h
theorem hexD_hexV {c : UInt8} {n : Nat} (h : hexV c = some n) : hexD n = c ∧ n < 16 := by
  obtain ⟨⟨k, hk⟩⟩ := c
  have : ∀ k : Fin 256, ∀ n : Fin 16, hexV ⟨⟨k⟩⟩ = some n.1 → hexD n.1 = ⟨⟨k⟩⟩ := by decide +kernel
  have hn : n < 16 := by
    unfold hexV at h
    have : (⟨⟨k, hk⟩⟩ : UInt8).toNat = k := rfl
    split at h
    · rename_i hd
      have := digU_bd hd
      simp only [Option.some.injEq] at h
      omega
    · split at h
      · rename_i h2
        simp only [Option.some.injEq] at h
        omega
      · cases h
  exact ⟨this ⟨k, hk⟩ ⟨n, hn⟩ h, hn⟩
theorem escP_inv {l r : List UInt8} {c : UInt8} (h : escP l = some (c, r)) : qc c ++ r = 92 :: l := by
  unfold escP at h
  split at h
  · cases h
  · rename_i a x
    split at h
    · rename_i ha
      simp only [Option.some.injEq, Prod.mk.injEq] at h
      obtain ⟨rfl, rfl⟩ := h
      unfold qc
      rw [if_neg (by rcases ha with rfl | rfl <;> decide), if_pos ha]
      rfl
    · split at h
      · rename_i ha
        split at h
        · rename_i h1 h2 y
          split at h
          · rename_i p q hp hq
            obtain ⟨p1, p2⟩ := hexD_hexV hp
            obtain ⟨q1, q2⟩ := hexD_hexV hq
            split at h
            · cases h
            · rename_i hno
              simp only [Option.some.injEq, Prod.mk.injEq] at h
              obtain ⟨rfl, rfl⟩ := h
              have e : (16 * p + q).toUInt8.toNat = 16 * p + q := by simp; omega
              unfold qc
              rw [e, if_pos (by omega)]
              rw [show (16 * p + q) / 16 = p by omega, show (16 * p + q) % 16 = q by omega, p1, q1, ha]
              rfl
          · cases h
        · cases h
      · cases h
theorem strP_inv : ∀ (n : Nat) {l s r : List UInt8}, l.length = n → strP l = some (s, r) → l = s.flatMap qc ++ 39 :: r := by
  intro n
  induction n using Nat.strongRecOn with
  | _ n ih =>
    intro l s r hn h
    cases l with
    | nil => rw [strP_nil] at h; cases h
    | cons c x =>
      rw [strP_cons] at h
      split at h
      · rename_i hc
        simp only [Option.some.injEq, Prod.mk.injEq] at h
        obtain ⟨rfl, rfl⟩ := h
        rw [hc]; rfl
      · rename_i hc
        split at h
        · cases h
        · rename_i h32
          split at h
          · rename_i h92
            cases he : escP x with
            | none => rw [he] at h; cases h
            | some y =>
              obtain ⟨b, x'⟩ := y
              rw [he, Option.bind_some] at h
              have hlt := escP_lt he
              cases hs : strP x' with
              | none => rw [hs] at h; cases h
              | some z =>
                obtain ⟨s', r'⟩ := z
                rw [hs] at h
                simp only [Option.map_some, Option.some.injEq, Prod.mk.injEq] at h
                obtain ⟨rfl, rfl⟩ := h
                have := ih x'.length (by simp at hn; omega) rfl hs
                have h2 := escP_inv he
                rw [List.flatMap_cons, List.append_assoc, ← this, h2, h92]
          · rename_i h92
            cases hs : strP x with
            | none => rw [hs] at h; cases h
            | some z =>
              obtain ⟨s', r'⟩ := z
              rw [hs] at h
              simp only [Option.map_some, Option.some.injEq, Prod.mk.injEq] at h
              obtain ⟨rfl, rfl⟩ := h
              have := ih x.length (by simp at hn; omega) rfl hs
              have hq : qc c = [c] := by unfold qc; rw [if_neg h32, if_neg (fun e => e.elim hc h92)]
              rw [List.flatMap_cons, hq, List.append_assoc, ← this]
              rfl
theorem mustP_inv : ∀ {a l r : List UInt8}, mustP a l = some r → l = a ++ r
  | [], l, r, h => by
    have : l = r := by cases l <;> simpa [mustP] using h
    rw [this]; rfl
  | c :: a, [], r, h => by simp [mustP] at h
  | c :: a, b :: l, r, h => by
    unfold mustP at h
    split at h
    · rename_i hc
      rw [mustP_inv h, hc]; rfl
    · cases h
theorem elemP_inv {k : Int} {l r : List UInt8} {v : Val} (h : elemP k l = some (v, r)) : ∃ n, v = .mk k n ⟨#[]⟩ [] ∧ l = 91 :: (Lib.itoa n ++ [93]) ++ r ∧ -9223372036854775808 ≤ n ∧ n ≤ 9223372036854775807 := by
  unfold elemP at h
  cases h1 : mustP [91] l with
  | none => rw [h1] at h; cases h
  | some l1 =>
    rw [h1, Option.bind_some] at h
    cases h2 : numP l1 with
    | none => rw [h2] at h; cases h
    | some y =>
      obtain ⟨n, l2⟩ := y
      rw [h2, Option.bind_some] at h
      cases h3 : mustP [93] l2 with
      | none => rw [h3] at h; cases h
      | some l3 =>
        rw [h3] at h
        simp only [Option.map_some, Option.some.injEq, Prod.mk.injEq] at h
        obtain ⟨rfl, rfl⟩ := h
        have e1 := mustP_inv h1
        have e2 := numP_inv h2
        have e3 := mustP_inv h3
        refine ⟨n, rfl, ?_, e2.2⟩
        rw [e1, e2.1, e3]
        simp
/-- What the rounds over a list have read. -/
theorem itemsP_inv (p : List UInt8 → Option (Val × List UInt8)) (t : Val → List UInt8) (e : UInt8) (many : Bool) (hp : ∀ l v r, p l = some (v, r) → l = t v ++ r ∧ i64V v) :
    ∀ (f : Nat) (first : Bool) (l : List UInt8) (vs : List Val) (r : List UInt8), itemsP p e many f first l = some (vs, r) →
      i64L vs ∧ (many = true → vs.length % 2 = 0) ∧ ∃ ts, ts = (if many = true then pairsB (vs.map t) else vs.map t) ∧ (first = false → vs = [] ∨ ∃ l', l = 44 :: l') ∧
        l = (if first = true then joinB [44, 32] ts else ts.flatMap fun x => [44, 32] ++ x) ++ e :: r := by
  intro f
  induction f with
  | zero => intro first l vs r h; cases h
  | succ f ih =>
    intro first l vs r h
    rw [itemsP] at h
    split at h
    · rename_i hh
      simp only [Option.some.injEq, Prod.mk.injEq] at h
      obtain ⟨rfl, rfl⟩ := h
      obtain ⟨l', rfl⟩ : ∃ l', l = e :: l' := by
        cases l with
        | nil => simp at hh
        | cons a l => exact ⟨l, by simp at hh; rw [hh]⟩
      refine ⟨trivial, fun _ => rfl, [], by cases many <;> rfl, fun _ => .inl rfl, ?_⟩
      cases first <;> rfl
    · rename_i hh
      cases h1 : (if first = true then some l else mustP [44, 32] l) with
      | none => rw [h1] at h; cases h
      | some l1 =>
        rw [h1, Option.bind_some] at h
        have hl : l = (if first = true then [] else [44, 32]) ++ l1 := by
          cases first with
          | true => simp at h1; simp [h1]
          | false => simp only [Bool.false_eq_true, if_false] at h1 ⊢; exact mustP_inv h1
        cases h2 : oneP p many l1 with
        | none => rw [h2] at h; cases h
        | some y =>
          obtain ⟨us, l2⟩ := y
          rw [h2, Option.bind_some] at h
          dsimp only at h
          split at h
          · rename_i hnext
            cases h3 : itemsP p e many f false l2 with
            | none => rw [h3] at h; cases h
            | some z =>
              obtain ⟨ws, r'⟩ := z
              rw [h3] at h
              simp only [Option.map_some, Option.some.injEq, Prod.mk.injEq] at h
              obtain ⟨rfl, rfl⟩ := h
              obtain ⟨g1, g2, ts, g3, g4, g5⟩ := ih false l2 ws r' h3
              simp only [Bool.false_eq_true, if_false] at g5
              have hone : i64L us ∧ ∃ x, l1 = x ++ l2 ∧ (if many = true then us.length = 2 ∧ pairsB ((us ++ ws).map t) = x :: pairsB (ws.map t) else us.length = 1 ∧ (us ++ ws).map t = x :: ws.map t) := by
                unfold oneP at h2
                cases ha : p l1 with
                | none => rw [ha] at h2; cases h2
                | some y =>
                  obtain ⟨a, la⟩ := y
                  obtain ⟨pa1, pa2⟩ := hp _ _ _ ha
                  rw [ha, Option.bind_some] at h2
                  cases many with
                  | false =>
                    simp only [Bool.false_eq_true, if_false, Option.some.injEq, Prod.mk.injEq] at h2
                    obtain ⟨rfl, rfl⟩ := h2
                    exact ⟨⟨pa2, trivial⟩, t a, pa1, by simp⟩
                  | true =>
                    simp only [if_true] at h2
                    cases hb : mustP [58, 32] la with
                    | none => rw [hb] at h2; cases h2
                    | some lb =>
                      rw [hb, Option.bind_some] at h2
                      cases hc : p lb with
                      | none => rw [hc] at h2; cases h2
                      | some y =>
                        obtain ⟨b, lc⟩ := y
                        obtain ⟨pb1, pb2⟩ := hp _ _ _ hc
                        rw [hc] at h2
                        simp only [Option.map_some, Option.some.injEq, Prod.mk.injEq] at h2
                        obtain ⟨rfl, rfl⟩ := h2
                        refine ⟨⟨pa2, pb2, trivial⟩, t a ++ [58, 32] ++ t b, ?_, ?_⟩
                        · rw [pa1, mustP_inv hb, pb1]; simp
                        · simp [pairsB]
              obtain ⟨o1, x, o2, o3⟩ := hone
              have happ : ∀ (a b : List Val), i64L a → i64L b → i64L (a ++ b) := by
                intro a b ha hb
                induction a with
                | nil => exact hb
                | cons v a ih => exact ⟨ha.1, ih ha.2⟩
              refine ⟨happ _ _ o1 g1, ?_, x :: ts, ?_, ?_, ?_⟩
              · intro hm
                rw [if_pos hm] at o3
                rw [List.length_append, o3.1]
                have := g2 hm
                omega
              · rw [g3]
                cases many with
                | true => simp only [if_true] at o3 ⊢; rw [o3.2]
                | false => simp only [Bool.false_eq_true, if_false] at o3 ⊢; rw [o3.2]
              · intro hf
                subst hf
                right
                exact ⟨_, hl⟩
              · have hj : ∀ (x : List UInt8) (ts : List (List UInt8)), joinB [44, 32] (x :: ts) = x ++ ts.flatMap fun g => [44, 32] ++ g := by
                  intro x ts
                  induction ts generalizing x with
                  | nil => simp [joinB]
                  | cons y l ih2 => rw [joinB, ih2]; simp
                rw [hl, o2, g5]
                cases first with
                | true => simp only [if_true]; rw [hj]; simp
                | false => simp
          · cases h
/-- What is read off as a value is that value's text. -/
theorem valP_inv : ∀ (d : Nat) (l : List UInt8) (v : Val) (r : List UInt8), valP d l = some (v, r) → l = textV d v ++ r ∧ i64V v := by
  intro d
  induction d with
  | zero => intro l v r h; cases h
  | succ d ih =>
    intro l v r h
    cases l with
    | nil => cases h
    | cons c x =>
      rw [valP] at h
      split at h
      · cases h1 : numP (c :: x) with
        | none => rw [h1] at h; cases h
        | some y =>
          obtain ⟨n, r'⟩ := y
          rw [h1] at h
          simp only [Option.map_some, Option.some.injEq, Prod.mk.injEq] at h
          obtain ⟨rfl, rfl⟩ := h
          obtain ⟨e1, e2⟩ := numP_inv h1
          exact ⟨e1, e2, trivial⟩
      split at h
      · rename_i hc
        cases h1 : strP x with
        | none => rw [h1] at h; cases h
        | some y =>
          obtain ⟨s, r'⟩ := y
          rw [h1] at h
          simp only [Option.map_some, Option.some.injEq, Prod.mk.injEq] at h
          obtain ⟨rfl, rfl⟩ := h
          refine ⟨?_, ⟨by decide, by decide⟩, trivial⟩
          rw [strP_inv _ rfl h1, hc]
          show _ = quoteL (s.toArray.toList) ++ r'
          simp [quoteL]
      split at h
      · rename_i hc
        cases h1 : mustP [116, 114, 117, 101] (c :: x) with
        | none => rw [h1] at h; cases h
        | some y =>
          rw [h1] at h
          simp only [Option.map_some, Option.some.injEq, Prod.mk.injEq] at h
          obtain ⟨rfl, rfl⟩ := h
          exact ⟨mustP_inv h1, ⟨by decide, by decide⟩, trivial⟩
      split at h
      · rename_i hc
        cases h1 : mustP [102, 97, 108, 115, 101] (c :: x) with
        | none => rw [h1] at h; cases h
        | some y =>
          rw [h1] at h
          simp only [Option.map_some, Option.some.injEq, Prod.mk.injEq] at h
          obtain ⟨rfl, rfl⟩ := h
          exact ⟨mustP_inv h1, ⟨by decide, by decide⟩, trivial⟩
      split at h
      · rename_i hc
        obtain ⟨n, rfl, e1, e2⟩ := elemP_inv h
        exact ⟨by rw [e1, hc]; rfl, e2, trivial⟩
      split at h
      · rename_i hc
        obtain ⟨n, rfl, e1, e2⟩ := elemP_inv h
        exact ⟨by rw [e1, hc]; rfl, e2, trivial⟩
      split at h
      · rename_i hc
        cases h1 : itemsP (valP d) 93 false (x.length + 1) true x with
        | none => rw [h1] at h; cases h
        | some y =>
          obtain ⟨vs, r'⟩ := y
          rw [h1] at h
          simp only [Option.map_some, Option.some.injEq, Prod.mk.injEq] at h
          obtain ⟨rfl, rfl⟩ := h
          obtain ⟨g1, g2, ts, g3, g4, g5⟩ := itemsP_inv (valP d) (textV d) 93 false ih _ _ _ _ _ h1
          simp only [if_true, Bool.false_eq_true, if_false] at g3 g5
          refine ⟨?_, ⟨by decide, by decide⟩, g1⟩
          rw [hc, g5, g3]
          show _ = 91 :: (joinB [44, 32] (textL d vs) ++ [93]) ++ r'
          rw [textL_map]
          simp
      split at h
      · rename_i hc
        cases h1 : itemsP (valP d) 125 true (x.length + 1) true x with
        | none => rw [h1] at h; cases h
        | some y =>
          obtain ⟨vs, r'⟩ := y
          rw [h1] at h
          simp only [Option.map_some, Option.some.injEq, Prod.mk.injEq] at h
          obtain ⟨rfl, rfl⟩ := h
          obtain ⟨g1, g2, ts, g3, g4, g5⟩ := itemsP_inv (valP d) (textV d) 125 true ih _ _ _ _ _ h1
          simp only [if_true] at g3 g5
          refine ⟨?_, ⟨by decide, by decide⟩, g1⟩
          rw [hc, g5, g3]
          show _ = 123 :: (joinB [44, 32] (pairsB (textL d vs)) ++ [125]) ++ r'
          rw [textL_map]
          simp
      · cases h
theorem parseV_inv {l : List UInt8} {v : Val} (h : parseV l = some v) : l = textV 8 v ∧ okV v = true ∧ i64V v := by
  unfold parseV at h
  split at h
  · rename_i v' hv
    split at h
    · rename_i ho
      simp only [Option.some.injEq] at h
      subst h
      obtain ⟨e1, e2⟩ := valP_inv 8 l _ _ hv
      rw [List.append_nil] at e1
      exact ⟨e1, ho, e2⟩
    · cases h
  · cases h
end Go.Proofs.YtijgmloodkbljaaGreatDoor

namespace Go.Proofs.YtijgmloodkbljaaGreatDoor
open Go Go.RowKit

/-- The reader at block r has given up. -/
def Gave (r : Nat) (w : World) (e : Ending) (w' : World) : Prop := ∃ j : Int, e = .panicked [{ v := .iface 261 (.agg #[.int .i64 j]), recovered := false }] ∧ GC r w w'
def MustR (x : Option (List UInt8)) (r : Nat) (s : ByteArray) (k : Nat) (w : World) (e : Ending) (w' : World) : Prop :=
  match x with | some _ => RetR (.tuple #[]) r s k w e w' | none => Gave r w e w'

theorem f237_fail (r : Nat) (s : ByteArray) (k : Nat) (w : World) (h : RdAt r s k w) : Calls Tryz.prog 237 #[.pointer (some ⟨r, 0, none⟩)] w (Gave r w) := by
  have c1 : w.cell? ⟨r, 1, none⟩ = some (.int .i64 k) := Lib.cell_of_heap h 1
  go_enter Tryz.func237, Tryz.ntmps237
  go_wp2
  exact ⟨rfl, k, rfl, GC.refl _ _⟩
theorem Gave.trans {r : Nat} {w w1 w2 : World} {e : Ending} (h : GC r w w1) (h2 : Gave r w1 e w2) : Gave r w e w2 := by
  obtain ⟨j, h3, h4⟩ := h2
  exact ⟨j, h3, h.trans h4⟩
theorem mustP_step (a : UInt8) (m : List UInt8) (b : UInt8) (l : List UInt8) : mustP (a :: m) (b :: l) = if a = b then mustP m l else none := rfl
theorem mustP_end (a : UInt8) (m : List UInt8) : mustP (a :: m) [] = none := rfl
theorem toNat_ne {a b : UInt8} (h : a ≠ b) : ((b.toNat : Int) != (a.toNat : Int)) = true := by
  have : ¬ a.toNat = b.toNat := fun e => h (UInt8.toNat_inj.1 e)
  simp; omega
theorem MustR.none {r : Nat} {s : ByteArray} {k : Nat} {w : World} {x : Option (List UInt8)} (hx : x = none) {e : Ending} {w' : World} (h : Gave r w e w') : MustR x r s k w e w' := by subst hx; exact h
theorem MustR.some {r : Nat} {s : ByteArray} {k : Nat} {w : World} {x : Option (List UInt8)} {y : List UInt8} (hx : x = some y) {e : Ending} {w' : World} (h : RetR (.tuple #[]) r s k w e w') : MustR x r s k w e w' := by subst hx; exact h

set_option maxHeartbeats 4000000 in
set_option maxRecDepth 100000 in
theorem f313_must (r : Nat) (s : ByteArray) (k : Nat) (m : ByteArray) (w : World) (h : RdAt r s k w) (hk : k ≤ s.size) (hs : s.size ≤ 1048576) (hm : m.size ≤ 16) :
    Calls Tryz.prog 313 #[.pointer (some ⟨r, 0, none⟩), .string m] w (MustR (mustP m.data.toList (s.data.toList.drop k)) r s (k + m.size) w) := by
  generalize hR : mustP m.data.toList (s.data.toList.drop k) = R
  have HR := Lib.hid hR
  clear hR
  go_enter Tryz.func313, Tryz.ntmps313
  go_wp2
  go_loopw [7] (fun v wr => ∃ i : Nat, i ≤ m.size ∧ v = .int .i64 i ∧ k + i ≤ s.size ∧ Hid (mustP (m.data.toList.drop i) (s.data.toList.drop (k + i)) = R) ∧ RdAt r s (k + i) wr ∧ GC r w wr) (fun v _ => m.size - (intOf v).toNat)
  case atStart => exact ⟨0, by omega, rfl, by omega, by simpa using HR, h, GC.refl _ _⟩
  case round =>
    obtain ⟨i, hi, rfl, hki, H, hr1, hg1⟩ := hrel
    have c0 : wr.cell? ⟨r, 0, none⟩ = some (.string s) := Lib.cell_of_heap hr1 0
    have c1 : wr.cell? ⟨r, 1, none⟩ = some (.int .i64 (k + i : Nat)) := Lib.cell_of_heap hr1 1
    by_cases hlt : i < m.size
    · have hdm := Lib.hid (drop_cons m i hlt)
      by_cases hls : k + i < s.size
      · have hds := Lib.hid (drop_cons s (k + i) hls)
        have hge : decide (s.size ≤ k + i) = false := by simp; omega
        generalize hki' : k + i = q at *
        have HQ := Lib.hid hki'
        clear hki'
        by_cases he : m[i] = s[q]
        · have heq : ((s[q].toNat : Int) != (m[i].toNat : Int)) = false := by rw [he]; simp
          go_wp2
          go_quiet (fail)
          generalize hw2 : wr.drewN _ = w2
          have hr2 : RdAt r s q w2 := by rw [← hw2]; exact hr1
          have hg2 : GC r w w2 := by rw [← hw2]; exact hg1.drewN _
          clear hr1 hg1 c0 c1 hw2
          have c1 : w2.cell? ⟨r, 1, none⟩ = some (.int .i64 q) := Lib.cell_of_heap hr2 1
          have cf : w2.frozen? ⟨r, 1, none⟩ = false := Lib.frozen_of_heap hr2 1
          obtain ⟨h4, h5⟩ := hr2.set (q + 1)
          have H4 := Lib.hid h4
          have H5 := Lib.hid (hg2.trans h5)
          clear h4 h5
          go_wp2
          go_roundw
          case rel =>
            refine ⟨i + 1, by omega, by go_num, by have := HQ.out; omega, ?_, ?_, ?_⟩
            · have h1 := H.out
              rw [hdm.out, hds.out, mustP_step, if_pos he] at h1
              rw [← HQ.out] at h1
              exact h1
            · have := H4.out
              rw [show k + (i + 1) = q + 1 by have := HQ.out; omega]
              exact this
            · exact H5.out
          case measure => simp [intOf]; omega
        · have heq : ((s[q].toNat : Int) != (m[i].toNat : Int)) = true := toNat_ne he
          have hRn : R = none := by rw [← H.out, hdm.out, hds.out, mustP_step, if_neg he]
          go_wp2
          go_quiet (fail)
          go_wp2_with fail
          generalize hw2 : wr.drewN _ = w2
          have hr2 : RdAt r s q w2 := by rw [← hw2]; exact hr1
          have hg2 : GC r w w2 := by rw [← hw2]; exact hg1.drewN _
          clear hr1 hg1 c0 c1 hw2
          refine (f237_fail r s q _ hr2).mono ?_
          rintro e w3 ⟨j, rfl, hg3⟩
          exact ⟨rfl, MustR.none hRn ⟨j, rfl, hg2.trans hg3⟩⟩
      · have hds := Lib.hid (drop_end s (k + i) (by omega))
        have hge : decide (s.size ≤ k + i) = true := by simp; omega
        have hRn : R = none := by rw [← H.out, hdm.out, hds.out, mustP_end]
        generalize hki' : k + i = q at *
        clear hki'
        go_wp2
        go_quiet (fail)
        go_wp2_with fail
        generalize hw2 : wr.drewN _ = w2
        have hr2 : RdAt r s q w2 := by rw [← hw2]; exact hr1
        have hg2 : GC r w w2 := by rw [← hw2]; exact hg1.drewN _
        clear hr1 hg1 c0 c1 hw2
        refine (f237_fail r s q _ hr2).mono ?_
        rintro e w3 ⟨j, rfl, hg3⟩
        exact ⟨rfl, MustR.none hRn ⟨j, rfl, hg2.trans hg3⟩⟩
    · obtain rfl : i = m.size := by omega
      have hRs : R = some (s.data.toList.drop (k + m.size)) := by
        rw [← H.out, drop_end m m.size (Nat.le_refl _)]
        cases s.data.toList.drop (k + m.size) <;> rfl
      go_wp2
      go_end0
      exact MustR.some hRs ⟨rfl, hr1, hg1⟩
end Go.Proofs.YtijgmloodkbljaaGreatDoor
