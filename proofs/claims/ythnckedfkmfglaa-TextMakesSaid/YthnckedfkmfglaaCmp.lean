/- Plain law: the reference's Compare comes to the bytewise comparison, which is antisymmetric. -/
import Derived.Test.YthnckedfkmfglaaPTextComparesx1
import Derived.Lib.Bytealg
namespace Go.Proofs.Ythnckedfkmfglaa
open Go.RowKit Go.Proofs.YthnckedfkmfglaaW.PrintWords Go.Proofs.YthnckedfkmfglaaW.PrintLast Go.Proofs.Ythnckedfkmfglaa.PTextCompares

theorem cmp_neg : ∀ a b : List UInt8, Lib.compareBytes b a = - Lib.compareBytes a b
  | [], [] => rfl
  | [], _ :: _ => rfl
  | _ :: _, [] => rfl
  | x :: a, y :: b => by
    unfold Lib.compareBytes
    by_cases h1 : x < y
    · have h2 : ¬ y < x := fun h => by have := UInt8.lt_iff_toNat_lt.1 h; have := UInt8.lt_iff_toNat_lt.1 h1; omega
      rw [if_neg h2, if_pos h1, if_pos h1]; rfl
    · by_cases h2 : y < x
      · rw [if_pos h2, if_neg h1, if_pos h2]
      · rw [if_neg h2, if_neg h1, if_neg h1, if_neg h2]; exact cmp_neg a b
theorem cmp_self : ∀ a : List UInt8, Lib.compareBytes a a = 0
  | [] => rfl
  | x :: a => by
    unfold Lib.compareBytes
    have h : ¬ x < x := fun h => by have := UInt8.lt_iff_toNat_lt.1 h; omega
    rw [if_neg h, if_neg h]; exact cmp_self a
theorem cmp_bd : ∀ a b : List UInt8, -1 ≤ Lib.compareBytes a b ∧ Lib.compareBytes a b ≤ 1
  | [], [] => by decide
  | [], _ :: _ => by simp [Lib.compareBytes]
  | _ :: _, [] => by simp [Lib.compareBytes]
  | x :: a, y :: b => by
    unfold Lib.compareBytes
    by_cases h1 : x < y
    · rw [if_pos h1]; decide
    · by_cases h2 : y < x
      · rw [if_neg h1, if_pos h2]; decide
      · rw [if_neg h1, if_neg h2]; exact cmp_bd a b

theorem bt_get (s : ByteArray) (i : Nat) (h : i < s.size) : bt s (i : Int) = ((s[i]'h).toNat : Int) := by
  unfold bt
  have h' : ((i : Int).toNat) < s.size := by simpa using h
  rw [dif_pos h']
  rfl
theorem drop_get (s : ByteArray) (i : Nat) (h : i < s.size) : s.data.toList.drop i = (s[i]'h) :: s.data.toList.drop (i + 1) := by
  rw [List.drop_eq_getElem_cons (by simpa using h)]
  rfl

theorem ref_compare (a b : ByteArray) (ha : a.size ≤ 9223372036854775806) : ∀ (d i k : Nat), a.size - i ≤ d → i ≤ a.size → i ≤ b.size → 2 * d + 2 ≤ k →
    inkhornref1_Compare.l0 k a b (i : Int) = some (Lib.compareBytes (a.data.toList.drop i) (b.data.toList.drop i)) := by
  intro d
  induction d with
  | zero =>
    intro i k h1 h2 h3 hk
    obtain ⟨k, rfl⟩ : ∃ m, k = m + 2 := ⟨k - 2, by omega⟩
    have hi : i = a.size := by omega
    simp only [inkhornref1_Compare.l0, inkhornref1_Compare.j1]
    rw [if_neg (by omega), if_neg (by simp)]
    have e1 : a.data.toList.drop i = [] := List.drop_eq_nil_of_le (by simp; exact Nat.le_of_eq hi.symm)
    rw [e1]
    by_cases h : i < b.size
    · rw [if_pos (by omega), drop_get b i h]; rfl
    · have e2 : b.data.toList.drop i = [] := List.drop_eq_nil_of_le (by simp; exact Nat.le_of_not_lt h)
      rw [if_neg (by omega), if_neg (by omega), e2]; rfl
  | succ d ih =>
    intro i k h1 h2 h3 hk
    obtain ⟨k, rfl⟩ : ∃ m, k = m + 2 := ⟨k - 2, by omega⟩
    simp only [inkhornref1_Compare.l0, inkhornref1_Compare.j1]
    by_cases hia : i < a.size
    · rw [if_pos (by omega), drop_get a i hia]
      by_cases hib : i < b.size
      · rw [if_pos (by simpa using hib), if_pos (by omega), if_pos (by omega), if_pos (by omega), drop_get b i hib, bt_get a i hia, bt_get b i hib]
        unfold Lib.compareBytes
        by_cases c1 : a[i] < b[i]
        · rw [if_pos (by have := UInt8.lt_iff_toNat_lt.1 c1; omega), if_pos c1]
        · by_cases c2 : b[i] < a[i]
          · rw [if_neg (by have := UInt8.lt_iff_toNat_lt.1 c2; omega), if_pos (by have := UInt8.lt_iff_toNat_lt.1 c2; omega), if_neg c1, if_pos c2]
          · have n1 := mt UInt8.lt_iff_toNat_lt.2 c1
            have n2 := mt UInt8.lt_iff_toNat_lt.2 c2
            rw [if_neg (by omega), if_neg (by omega), if_neg c1, if_neg c2]
            have hw : wrap64 ((i : Int) + 1) = ((i + 1 : Nat) : Int) := by unfold wrap64; omega
            rw [hw]
            exact ih (i + 1) k (by omega) (by omega) (by omega) (by omega)
      · have e2 : b.data.toList.drop i = [] := List.drop_eq_nil_of_le (by simp; exact Nat.le_of_not_lt hib)
        rw [if_neg (by simpa using hib), if_neg (by omega), if_pos (by omega), e2]; rfl
    · have e1 : a.data.toList.drop i = [] := List.drop_eq_nil_of_le (by simp; exact Nat.le_of_not_lt hia)
      rw [if_neg (by omega), if_neg (by simp), e1]
      by_cases h : i < b.size
      · rw [if_pos (by omega), drop_get b i h]; rfl
      · have e2 : b.data.toList.drop i = [] := List.drop_eq_nil_of_le (by simp; exact Nat.le_of_not_lt h)
        rw [if_neg (by omega), if_neg (by omega), e2]; rfl

theorem ref_compare_f (a b : ByteArray) (ha : a.size ≤ 9223372036854775806) :
    inkhornref1_Compare.f (2 * a.size + 2) a b = some (Lib.compareBytes a.data.toList b.data.toList) := by
  have h := ref_compare a b ha a.size 0 (2 * a.size + 2) (by omega) (by omega) (by omega) (by omega)
  simp only [List.drop_zero] at h
  exact h
end Go.Proofs.Ythnckedfkmfglaa
