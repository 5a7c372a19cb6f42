/- Plain law: the reference's Runes, Len, Word, Asked, Text and Prefix, as they are printed, come to the model's runes. -/
import Derived.Test.YtimndkjgagdphaaRef
namespace Go.Proofs.Ytimndkjgagdphaa
open Go.RowKit Go.Proofs.YtimndkjgagdphaaW.PrintWords Go.Proofs.YtimndkjgagdphaaW.PrintLast Go.Proofs.Ytimndkjgagdphaa.PSlotsScript

theorem ref_runes_l0 (s : ByteArray) (hs : s.size ≤ 1048576) : ∀ (f pos k : Nat) (acc : List Int), s.size ≤ pos + f → pos ≤ s.size + 4 → acc.length ≤ pos → f + 3 ≤ k →
    inkhornref1_Runes.l0 k s acc (pos : Int) = some (match runesFrom s f pos with | none => ([], false) | some l => (acc ++ l, true))
  | 0, pos, k, acc, h1, h2, h3, hk => by
    obtain ⟨k, rfl⟩ : ∃ m, k = m + 1 := ⟨k - 1, by omega⟩
    simp only [inkhornref1_Runes.l0]
    rw [if_neg (by omega)]
    simp [runesFrom]
  | f + 1, pos, k, acc, h1, h2, h3, hk => by
    obtain ⟨k, rfl⟩ : ∃ m, k = m + 1 := ⟨k - 1, by omega⟩
    by_cases hp : pos < s.size
    · have ag := one_dec (s.get! pos).toNat (s.get! (pos + 1)).toNat (s.get! (pos + 2)).toNat (s.get! (pos + 3)).toNat (decide (pos + 1 < s.size)) (decide (pos + 2 < s.size)) (decide (pos + 3 < s.size)) (UInt8.toNat_lt _) (UInt8.toNat_lt _) (UInt8.toNat_lt _) (UInt8.toNat_lt _)
      have e1 := one_eq s pos (k - 2) hp hs
      rw [show k - 2 + 2 = k from by omega] at e1
      unfold contB at e1
      rw [← decode_eq] at ag
      generalize oneN (s.get! pos).toNat (s.get! (pos + 1)).toNat (s.get! (pos + 2)).toNat (s.get! (pos + 3)).toNat (decide (pos + 1 < s.size) && (s.get! (pos + 1)).toNat / 64 == 2) (decide (pos + 2 < s.size) && (s.get! (pos + 2)).toNat / 64 == 2) (decide (pos + 3 < s.size) && (s.get! (pos + 3)).toNat / 64 == 2) = p at *
      simp only [inkhornref1_Runes.l0]
      rw [if_pos (by omega), e1, Option.bind_some]
      unfold runesFrom
      rw [if_pos hp]
      unfold Agrees at ag
      by_cases hbad : p.2 = 0 ∨ goodB p.1 = false ∨ (p.2 = 3 ∧ p.1 < 2048) ∨ (p.2 = 4 ∧ p.1 < 65536)
      · rw [if_pos hbad] at ag
        rw [if_pos ag]
        simp only
        by_cases b1 : p.2 = 0
        · rw [if_pos b1]
        · rw [if_neg b1, good_f, Option.bind_some]
          by_cases b2 : goodB p.1 = true
          · rw [if_pos b2]
            by_cases b3 : p.2 = 3
            · rw [if_pos b3, if_pos (by rcases hbad with h | h | h | h <;> simp_all)]
            · rw [if_neg b3, if_pos (c := p.2 = 4) (by rcases hbad with h | h | h | h <;> simp_all), if_pos (by rcases hbad with h | h | h | h <;> simp_all)]
          · rw [if_neg b2]
      · rw [if_neg hbad] at ag
        obtain ⟨hd, hw1, hw2, hr0, hr1⟩ := ag
        have hg : goodB p.1 = true := by
          cases h : goodB p.1 with
          | true => rfl
          | false => exact absurd (.inr (.inl h)) hbad
        have n3 : ¬ (p.2 = 3 ∧ p.1 < 2048) := fun h => hbad (.inr (.inr (.inl h)))
        have n4 : ¬ (p.2 = 4 ∧ p.1 < 65536) := fun h => hbad (.inr (.inr (.inr h)))
        have ih := ref_runes_l0 s hs f (pos + p.2.toNat) k (acc ++ [p.1]) (by omega) (by omega) (by simp; omega) (by omega)
        have hpos : ((pos + p.2.toNat : Nat) : Int) = wrap64 ((pos : Int) + p.2) := by rw [w64 _ (by omega) (by omega)]; omega
        rw [hpos] at ih
        have hfin : (match if (Utf8.decode s pos).1 = 65533 then none else (runesFrom s f (pos + (Utf8.decode s pos).2)).map fun l => ((Utf8.decode s pos).1 : Int) :: l with | none => (([] : List Int), false) | some l => (acc ++ l, true)) =
            (match runesFrom s f (pos + p.2.toNat) with | none => ([], false) | some l => ((acc ++ [p.1]) ++ l, true)) := by
          rw [hd]
          simp only
          rw [if_neg (by omega)]
          cases runesFrom s f (pos + p.2.toNat) with
          | none => rfl
          | some l =>
            have e : ((p.1.toNat : Nat) : Int) = p.1 := by omega
            simp [e]
        rw [hfin, ← ih, if_neg (by omega), good_f, Option.bind_some, if_pos hg, if_pos (c := acc.length < 35184372088832) (by omega)]
        by_cases b3 : p.2 = 3
        · rw [if_pos b3, if_neg (by omega), if_neg (by omega)]
        · rw [if_neg b3]
          by_cases b4 : p.2 = 4
          · rw [if_pos b4, if_neg (by omega)]
          · rw [if_neg b4]
    · simp only [inkhornref1_Runes.l0]
      rw [if_neg (by omega), runesFrom_end s _ _ hp]
      simp

theorem ref_runes (s : ByteArray) (hs : s.size ≤ 1048576) (k : Nat) (hk : s.size + 3 ≤ k) :
    inkhornref1_Runes.f k s = some (match runesOf s with | none => ([], false) | some l => (l, true)) := by
  have h := ref_runes_l0 s hs s.size 0 k [] (by omega) (by omega) (by simp) hk
  unfold inkhornref1_Runes.f runesOf
  simp only [List.nil_append] at h
  exact h
theorem ref_len (s : ByteArray) (hs : s.size ≤ 1048576) (k : Nat) (hk : s.size + 3 ≤ k) : inkhornref1_Len.f k s = some (lenOf s) := by
  unfold inkhornref1_Len.f lenOf
  rw [ref_runes s hs k hk, Option.bind_some]
  cases runesOf s <;> rfl
theorem ref_asked (s : ByteArray) (hs : s.size ≤ 1048576) (k : Nat) (hk : s.size + 3 ≤ k) : inkhornref1_Asked.f k s = some (askedB s) := by
  unfold inkhornref1_Asked.f askedB
  rw [ref_len s hs k hk, Option.bind_some, Option.bind_some]
  by_cases h : 0 ≤ lenOf s
  · rw [if_pos h, decide_eq_true h, Bool.true_and]
  · rw [if_neg h, decide_eq_false h, Bool.false_and]

end Go.Proofs.Ytimndkjgagdphaa
