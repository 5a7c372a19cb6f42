/- Plain law: decoding and encoding of runes are inverse; on lists of bytes, no program in sight. -/
import Derived.Test.YtimndkjgagdphaaPlain
import Derived.Laws.Cover4
namespace Go.Proofs.Ytimndkjgagdphaa

def encL (r : Int) : List UInt8 := (Utf8.encode r).data.toList

theorem get_bang (s : ByteArray) (i : Nat) (h : i < s.size) : s.get! i = s[i]'h := by
  simp [ByteArray.get!, getElem!_pos, h]
  rfl
theorem dropB (s : ByteArray) (i : Nat) (h : i < s.size) : s.data.toList.drop i = (s[i]'h) :: s.data.toList.drop (i + 1) := by
  rw [List.drop_eq_getElem_cons (by simpa using h)]
  rfl
theorem ofNat_of {b : UInt8} {n : Nat} (h : n = b.toNat) : UInt8.ofNat n = b := by
  subst h; simp

theorem valid_iff (r : Int) : Utf8.valid r = true ↔ (0 ≤ r ∧ r < 55296) ∨ (57344 ≤ r ∧ r ≤ 1114111) := by
  simp only [Utf8.valid]
  simp only [Bool.or_eq_true, Bool.and_eq_true, decide_eq_true_eq]

theorem encL_def (r : Int) : encL r = (Utf8.encode r).data.toList := rfl
def encN (c : Nat) : ByteArray :=
  if c < 128 then ⟨#[UInt8.ofNat c]⟩
  else if c < 2048 then ⟨#[UInt8.ofNat (192 + c / 64), UInt8.ofNat (128 + c % 64)]⟩
  else if c < 65536 then ⟨#[UInt8.ofNat (224 + c / 4096), UInt8.ofNat (128 + c / 64 % 64), UInt8.ofNat (128 + c % 64)]⟩
  else ⟨#[UInt8.ofNat (240 + c / 262144), UInt8.ofNat (128 + c / 4096 % 64), UInt8.ofNat (128 + c / 64 % 64), UInt8.ofNat (128 + c % 64)]⟩
theorem encode_eq (r : Int) : Utf8.encode r = encN (if Utf8.valid r = true then r.toNat else Utf8.runeError) := rfl
theorem encode_nat (c : Nat) (hv : Utf8.valid (c : Int) = true) : Utf8.encode (c : Int) = encN c := by
  rw [encode_eq, if_pos hv, Int.toNat_natCast]
theorem encN_1 (c : Nat) (h : c < 128) : encN c = ⟨#[UInt8.ofNat c]⟩ := by unfold encN; exact if_pos h
theorem encN_2 (c : Nat) (h0 : 128 ≤ c) (h : c < 2048) : encN c = ⟨#[UInt8.ofNat (192 + c / 64), UInt8.ofNat (128 + c % 64)]⟩ := by
  unfold encN; rw [if_neg (Nat.not_lt.2 h0)]; exact if_pos h
theorem encN_3 (c : Nat) (h0 : 2048 ≤ c) (h : c < 65536) : encN c = ⟨#[UInt8.ofNat (224 + c / 4096), UInt8.ofNat (128 + c / 64 % 64), UInt8.ofNat (128 + c % 64)]⟩ := by
  unfold encN; rw [if_neg (by omega), if_neg (by omega)]; exact if_pos h
theorem encN_4 (c : Nat) (h0 : 65536 ≤ c) : encN c = ⟨#[UInt8.ofNat (240 + c / 262144), UInt8.ofNat (128 + c / 4096 % 64), UInt8.ofNat (128 + c / 64 % 64), UInt8.ofNat (128 + c % 64)]⟩ := by
  unfold encN; rw [if_neg (by omega), if_neg (by omega)]; exact if_neg (by omega)
theorem encL_1 (c : Nat) (h : c < 128) : encL c = [UInt8.ofNat c] := by
  rw [encL_def, encode_nat c ((valid_iff _).2 (by omega)), encN_1 c h]
theorem encL_2 (c : Nat) (h0 : 128 ≤ c) (h : c < 2048) : encL c = [UInt8.ofNat (192 + c / 64), UInt8.ofNat (128 + c % 64)] := by
  rw [encL_def, encode_nat c ((valid_iff _).2 (by omega)), encN_2 c h0 h]
theorem encL_3 (c : Nat) (h0 : 2048 ≤ c) (h : c < 65536) (hv : Utf8.valid (c : Int) = true) : encL c = [UInt8.ofNat (224 + c / 4096), UInt8.ofNat (128 + c / 64 % 64), UInt8.ofNat (128 + c % 64)] := by
  rw [encL_def, encode_nat c hv, encN_3 c h0 h]
theorem encL_4 (c : Nat) (h0 : 65536 ≤ c) (hv : Utf8.valid (c : Int) = true) : encL c = [UInt8.ofNat (240 + c / 262144), UInt8.ofNat (128 + c / 4096 % 64), UInt8.ofNat (128 + c / 64 % 64), UInt8.ofNat (128 + c % 64)] := by
  rw [encL_def, encode_nat c hv, encN_4 c h0]

/-- The model's decoder, over the four bytes and whether they are there. -/
def decN (b0 b1 b2 b3 : Nat) (l1 l2 l3 : Bool) : Nat × Nat :=
  if b0 < 128 then (b0, 1)
  else if (b0 / 32 == 6 && (l1 && b1 / 64 == 2)) = true then
    if b0 % 32 * 64 + b1 % 64 ≥ 128 then (b0 % 32 * 64 + b1 % 64, 2) else (65533, 1)
  else if (b0 / 16 == 14 && (l1 && b1 / 64 == 2) && (l2 && b2 / 64 == 2)) = true then
    if (decide (b0 % 16 * 4096 + b1 % 64 * 64 + b2 % 64 ≥ 2048) && Utf8.valid ((b0 % 16 * 4096 + b1 % 64 * 64 + b2 % 64 : Nat) : Int)) = true then (b0 % 16 * 4096 + b1 % 64 * 64 + b2 % 64, 3) else (65533, 1)
  else if (b0 / 8 == 30 && (l1 && b1 / 64 == 2) && (l2 && b2 / 64 == 2) && (l3 && b3 / 64 == 2)) = true then
    if (decide (b0 % 8 * 262144 + b1 % 64 * 4096 + b2 % 64 * 64 + b3 % 64 ≥ 65536) && Utf8.valid ((b0 % 8 * 262144 + b1 % 64 * 4096 + b2 % 64 * 64 + b3 % 64 : Nat) : Int)) = true then (b0 % 8 * 262144 + b1 % 64 * 4096 + b2 % 64 * 64 + b3 % 64, 4) else (65533, 1)
  else (65533, 1)
theorem decode_eq (s : ByteArray) (i : Nat) : Utf8.decode s i = decN (s.get! i).toNat (s.get! (i + 1)).toNat (s.get! (i + 2)).toNat (s.get! (i + 3)).toNat (decide (i + 1 < s.size)) (decide (i + 2 < s.size)) (decide (i + 3 < s.size)) := rfl

/-- What is decoded as a rune other than 65533 stands there encoded. -/
theorem decode_good (s : ByteArray) (i : Nat) (hi : i < s.size) (hc : (Utf8.decode s i).1 ≠ 65533) :
    Utf8.valid ((Utf8.decode s i).1 : Int) = true ∧ s.data.toList.drop i = encL (Utf8.decode s i).1 ++ s.data.toList.drop (i + (Utf8.decode s i).2) ∧ i + (Utf8.decode s i).2 ≤ s.size ∧ (encL (Utf8.decode s i).1).length = (Utf8.decode s i).2 := by
  have h0 := (s.get! i).toNat_lt; have h1 := (s.get! (i + 1)).toNat_lt; have h2 := (s.get! (i + 2)).toNat_lt; have h3 := (s.get! (i + 3)).toNat_lt
  have g0 : s[i]'hi = s.get! i := (get_bang s i hi).symm
  rw [decode_eq] at hc ⊢
  unfold decN at hc ⊢
  generalize e0 : (s.get! i).toNat = b0 at *
  generalize e1 : (s.get! (i + 1)).toNat = b1 at *
  generalize e2 : (s.get! (i + 2)).toNat = b2 at *
  generalize e3 : (s.get! (i + 3)).toNat = b3 at *
  by_cases c1 : b0 < 128
  · rw [if_pos c1] at hc ⊢
    refine ⟨(valid_iff _).2 (by simp only; omega), ?_, by simp only; omega, ?_⟩
    · simp only
      rw [encL_1 _ c1, dropB s i hi, ofNat_of e0.symm, g0]; rfl
    · simp only; rw [encL_1 _ c1]; rfl
  · rw [if_neg c1] at hc ⊢
    by_cases c2 : (b0 / 32 == 6 && (decide (i + 1 < s.size) && b1 / 64 == 2)) = true
    · rw [if_pos c2] at hc ⊢
      simp only [Bool.and_eq_true, beq_iff_eq, decide_eq_true_eq] at c2
      obtain ⟨f0, l1, f1⟩ := c2
      have g1 : s[i + 1]'l1 = s.get! (i + 1) := (get_bang s _ l1).symm
      by_cases c3 : b0 % 32 * 64 + b1 % 64 ≥ 128
      · rw [if_pos c3] at hc ⊢
        have en := encL_2 (b0 % 32 * 64 + b1 % 64) c3 (by omega)
        refine ⟨(valid_iff _).2 (by simp only; omega), ?_, by simp only; omega, ?_⟩
        · simp only
          rw [en, dropB s i hi, dropB s (i + 1) l1, g0, g1, ofNat_of (b := s.get! i) (by omega), ofNat_of (b := s.get! (i + 1)) (by omega)]; rfl
        · simp only; rw [en]; rfl
      · rw [if_neg c3] at hc; exact absurd rfl hc
    · rw [if_neg c2] at hc ⊢
      by_cases c4 : (b0 / 16 == 14 && (decide (i + 1 < s.size) && b1 / 64 == 2) && (decide (i + 2 < s.size) && b2 / 64 == 2)) = true
      · rw [if_pos c4] at hc ⊢
        simp only [Bool.and_eq_true, beq_iff_eq, decide_eq_true_eq] at c4
        obtain ⟨⟨f0, l1, f1⟩, l2, f2⟩ := c4
        have g1 : s[i + 1]'l1 = s.get! (i + 1) := (get_bang s _ l1).symm
        have g2 : s[i + 2]'l2 = s.get! (i + 2) := (get_bang s _ l2).symm
        by_cases c5 : (decide (b0 % 16 * 4096 + b1 % 64 * 64 + b2 % 64 ≥ 2048) && Utf8.valid ((b0 % 16 * 4096 + b1 % 64 * 64 + b2 % 64 : Nat) : Int)) = true
        · rw [if_pos c5] at hc ⊢
          simp only [Bool.and_eq_true, decide_eq_true_eq] at c5
          have en := encL_3 _ c5.1 (by omega) c5.2
          refine ⟨c5.2, ?_, by simp only; omega, ?_⟩
          · simp only
            rw [en, dropB s i hi, dropB s (i + 1) l1, dropB s (i + 2) l2, g0, g1, g2, ofNat_of (b := s.get! i) (by omega), ofNat_of (b := s.get! (i + 1)) (by omega), ofNat_of (b := s.get! (i + 2)) (by omega)]; rfl
          · simp only; rw [en]; rfl
        · rw [if_neg c5] at hc; exact absurd rfl hc
      · rw [if_neg c4] at hc ⊢
        by_cases c6 : (b0 / 8 == 30 && (decide (i + 1 < s.size) && b1 / 64 == 2) && (decide (i + 2 < s.size) && b2 / 64 == 2) && (decide (i + 3 < s.size) && b3 / 64 == 2)) = true
        · rw [if_pos c6] at hc ⊢
          simp only [Bool.and_eq_true, beq_iff_eq, decide_eq_true_eq] at c6
          obtain ⟨⟨⟨f0, l1, f1⟩, l2, f2⟩, l3, f3⟩ := c6
          have g1 : s[i + 1]'l1 = s.get! (i + 1) := (get_bang s _ l1).symm
          have g2 : s[i + 2]'l2 = s.get! (i + 2) := (get_bang s _ l2).symm
          have g3 : s[i + 3]'l3 = s.get! (i + 3) := (get_bang s _ l3).symm
          by_cases c7 : (decide (b0 % 8 * 262144 + b1 % 64 * 4096 + b2 % 64 * 64 + b3 % 64 ≥ 65536) && Utf8.valid ((b0 % 8 * 262144 + b1 % 64 * 4096 + b2 % 64 * 64 + b3 % 64 : Nat) : Int)) = true
          · rw [if_pos c7] at hc ⊢
            simp only [Bool.and_eq_true, decide_eq_true_eq] at c7
            have en := encL_4 _ c7.1 c7.2
            refine ⟨c7.2, ?_, by simp only; omega, ?_⟩
            · simp only
              rw [en, dropB s i hi, dropB s (i + 1) l1, dropB s (i + 2) l2, dropB s (i + 3) l3, g0, g1, g2, g3, ofNat_of (b := s.get! i) (by omega), ofNat_of (b := s.get! (i + 1)) (by omega), ofNat_of (b := s.get! (i + 2)) (by omega), ofNat_of (b := s.get! (i + 3)) (by omega)]; rfl
            · simp only; rw [en]; rfl
          · rw [if_neg c7] at hc; exact absurd rfl hc
        · rw [if_neg c6] at hc; exact absurd rfl hc

theorem head_of_drop {s : ByteArray} {i : Nat} {b : UInt8} {t : List UInt8} (h : s.data.toList.drop i = b :: t) : i < s.size ∧ s.get! i = b ∧ s.data.toList.drop (i + 1) = t := by
  have hi : i < s.size := by
    apply Decidable.byContradiction
    intro hn
    rw [List.drop_eq_nil_of_le (by simp; exact Nat.le_of_not_lt hn)] at h
    simp at h
  rw [dropB s i hi] at h
  injection h with h1 h2
  exact ⟨hi, by rw [get_bang s i hi, h1], h2⟩

theorem toNat_ofNat' (n : Nat) (h : n < 256) : (UInt8.ofNat n).toNat = n := by simp; omega

/-- A rune that stands there encoded is decoded. -/
theorem decode_enc (s : ByteArray) (i : Nat) (r : Int) (t : List UInt8) (hv : Utf8.valid r = true) (h : s.data.toList.drop i = encL r ++ t) :
    Utf8.decode s i = (r.toNat, (encL r).length) := by
  have hvi := (valid_iff r).1 hv
  obtain ⟨c, rfl⟩ : ∃ c : Nat, r = c := ⟨r.toNat, by omega⟩
  rw [decode_eq, Int.toNat_natCast]
  unfold decN
  by_cases c1 : c < 128
  · rw [encL_1 c c1] at h ⊢
    obtain ⟨hi, e0, _⟩ := head_of_drop h
    have g0 : (s.get! i).toNat = c := by rw [e0, toNat_ofNat' _ (by omega)]
    rw [g0, if_pos c1]; rfl
  · by_cases c2 : c < 2048
    · rw [encL_2 c (by omega) c2] at h ⊢
      obtain ⟨hi, e0, h⟩ := head_of_drop h
      obtain ⟨hi1, e1, _⟩ := head_of_drop h
      have g0 : (s.get! i).toNat = 192 + c / 64 := by rw [e0, toNat_ofNat' _ (by omega)]
      have g1 : (s.get! (i + 1)).toNat = 128 + c % 64 := by rw [e1, toNat_ofNat' _ (by omega)]
      rw [g0, g1, if_neg (by omega), if_pos (by simp; omega), if_pos (by omega)]
      simp; omega
    · by_cases c3 : c < 65536
      · rw [encL_3 c (by omega) c3 hv] at h ⊢
        obtain ⟨hi, e0, h⟩ := head_of_drop h
        obtain ⟨hi1, e1, h⟩ := head_of_drop h
        obtain ⟨hi2, e2, _⟩ := head_of_drop h
        have g0 : (s.get! i).toNat = 224 + c / 4096 := by rw [e0, toNat_ofNat' _ (by omega)]
        have g1 : (s.get! (i + 1)).toNat = 128 + c / 64 % 64 := by rw [e1, toNat_ofNat' _ (by omega)]
        have g2 : (s.get! (i + 2)).toNat = 128 + c % 64 := by rw [show i + 2 = i + 1 + 1 from rfl, e2, toNat_ofNat' _ (by omega)]
        have ec : (224 + c / 4096) % 16 * 4096 + (128 + c / 64 % 64) % 64 * 64 + (128 + c % 64) % 64 = c := by omega
        rw [g0, g1, g2, ec, if_neg (by omega), if_neg (by simp; omega), if_pos (by simp; omega), if_pos (by simp [hv]; omega)]
        simp
      · rw [encL_4 c (by omega) hv] at h ⊢
        obtain ⟨hi, e0, h⟩ := head_of_drop h
        obtain ⟨hi1, e1, h⟩ := head_of_drop h
        obtain ⟨hi2, e2, h⟩ := head_of_drop h
        obtain ⟨hi3, e3, _⟩ := head_of_drop h
        have g0 : (s.get! i).toNat = 240 + c / 262144 := by rw [e0, toNat_ofNat' _ (by omega)]
        have g1 : (s.get! (i + 1)).toNat = 128 + c / 4096 % 64 := by rw [e1, toNat_ofNat' _ (by omega)]
        have g2 : (s.get! (i + 2)).toNat = 128 + c / 64 % 64 := by rw [show i + 2 = i + 1 + 1 from rfl, e2, toNat_ofNat' _ (by omega)]
        have g3 : (s.get! (i + 3)).toNat = 128 + c % 64 := by rw [show i + 3 = i + 1 + 1 + 1 from rfl, e3, toNat_ofNat' _ (by omega)]
        have ec : (240 + c / 262144) % 8 * 262144 + (128 + c / 4096 % 64) % 64 * 4096 + (128 + c / 64 % 64) % 64 * 64 + (128 + c % 64) % 64 = c := by omega
        rw [g0, g1, g2, g3, ec, if_neg (by omega), if_neg (by simp; omega), if_neg (by simp; omega), if_pos (by simp; omega), if_pos (by simp [hv]; omega)]
        simp
end Go.Proofs.Ytimndkjgagdphaa
