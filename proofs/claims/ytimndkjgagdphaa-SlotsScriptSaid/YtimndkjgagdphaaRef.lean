/- Plain law: the reference's functions of chapter 1, as they are printed, come to runesOf, lenOf, wordB, askedB, prefixOf and runesBytes. -/
import Derived.Test.YtimndkjgagdphaaPSlotsScriptx2
import Derived.Test.YtimndkjgagdphaaUtf
namespace Go.Proofs.Ytimndkjgagdphaa
open Go.RowKit Go.Proofs.YtimndkjgagdphaaW.PrintWords Go.Proofs.YtimndkjgagdphaaW.PrintLast Go.Proofs.Ytimndkjgagdphaa.PSlotsScript

def goodB (r : Int) : Bool := decide ((0 ≤ r ∧ r ≤ 1114111) ∧ (r < 55296 ∨ 57343 < r) ∧ r ≠ 65533)
def Good (r : Int) : Prop := Utf8.valid r = true ∧ r ≠ 65533
theorem goodB_iff (r : Int) : goodB r = true ↔ Good r := by
  unfold goodB Good
  rw [valid_iff]
  simp only [decide_eq_true_eq]
  omega
theorem bt_get (s : ByteArray) (i : Nat) (h : i < s.size) : bt s (i : Int) = ((s[i]'h).toNat : Int) := by
  unfold bt
  have h' : ((i : Int).toNat) < s.size := by simpa using h
  rw [dif_pos h']
  rfl
theorem w32 (x : Int) (h0 : -2147483648 ≤ x) (h1 : x ≤ 2147483647) : wrap32 x = x := by unfold wrap32; omega
theorem w64 (x : Int) (h0 : -9223372036854775808 ≤ x) (h1 : x ≤ 9223372036854775807) : wrap64 x = x := by unfold wrap64; omega

def contB (s : ByteArray) (j : Nat) : Bool := decide (j < s.size) && ((s.get! j).toNat / 64 == 2)

theorem bt_bang (s : ByteArray) (j : Nat) (h : j < s.size) : bt s (j : Int) = ((s.get! j).toNat : Int) := by
  rw [bt_get s j h, get_bang s j h]

theorem more_eq (s : ByteArray) (j : Nat) : inkhornref1_more.f s (j : Int) = some (if contB s j = true then (((s.get! j).toNat : Int) - 128, true) else (0, false)) := by
  unfold inkhornref1_more.f contB
  by_cases h : j < s.size
  · have hb := (s.get! j).toNat_lt
    rw [if_neg (by omega), if_pos (by omega), if_pos (by omega), bt_bang s j h]
    generalize (s.get! j).toNat = b at *
    by_cases c1 : b < 128
    · rw [if_pos (by omega), if_neg (by simp; omega)]
    · by_cases c2 : b > 191
      · rw [if_neg (by omega), if_pos (by omega), if_neg (by simp; omega)]
      · rw [if_neg (by omega), if_neg (by omega), if_pos (by simp; omega), w32 (b : Int) (by omega) (by omega), w32 _ (by omega) (by omega)]
  · rw [if_pos (by omega), if_neg (by simp; omega)]

def oneN (b0 b1 b2 b3 : Nat) (X Y Z : Bool) : Int × Int :=
  if b0 < 128 then ((b0 : Int), 1)
  else if 194 ≤ b0 ∧ b0 ≤ 223 ∧ X = true then (((b0 : Int) - 192) * 64 + ((b1 : Int) - 128), 2)
  else if 224 ≤ b0 ∧ b0 ≤ 239 ∧ X = true ∧ Y = true then (((b0 : Int) - 224) * 4096 + ((b1 : Int) - 128) * 64 + ((b2 : Int) - 128), 3)
  else if 240 ≤ b0 ∧ b0 ≤ 244 ∧ X = true ∧ Y = true ∧ Z = true then (((b0 : Int) - 240) * 262144 + ((b1 : Int) - 128) * 4096 + ((b2 : Int) - 128) * 64 + ((b3 : Int) - 128), 4)
  else (0, 0)

theorem v2 (b0 b1 : Int) (h0 : 194 ≤ b0) (h1 : b0 ≤ 223) (h2 : 128 ≤ b1) (h3 : b1 ≤ 191) :
    wrap32 ((wrap32 ((wrap32 (b0 - 192)) * 64)) + (b1 - 128)) = (b0 - 192) * 64 + (b1 - 128) := by
  rw [w32 (b0 - 192) (by omega) (by omega), w32 ((b0 - 192) * 64) (by omega) (by omega), w32 _ (by omega) (by omega)]
theorem v3 (b0 b1 b2 : Int) (h0 : 224 ≤ b0) (h1 : b0 ≤ 239) (h2 : 128 ≤ b1) (h3 : b1 ≤ 191) (h4 : 128 ≤ b2) (h5 : b2 ≤ 191) :
    wrap32 ((wrap32 ((wrap32 ((wrap32 (b0 - 224)) * 4096)) + (wrap32 ((b1 - 128) * 64)))) + (b2 - 128)) = (b0 - 224) * 4096 + (b1 - 128) * 64 + (b2 - 128) := by
  rw [w32 (b0 - 224) (by omega) (by omega), w32 ((b0 - 224) * 4096) (by omega) (by omega), w32 ((b1 - 128) * 64) (by omega) (by omega), w32 ((b0 - 224) * 4096 + (b1 - 128) * 64) (by omega) (by omega), w32 _ (by omega) (by omega)]
theorem v4 (b0 b1 b2 b3 : Int) (h0 : 240 ≤ b0) (h1 : b0 ≤ 244) (h2 : 128 ≤ b1) (h3 : b1 ≤ 191) (h4 : 128 ≤ b2) (h5 : b2 ≤ 191) (h6 : 128 ≤ b3) (h7 : b3 ≤ 191) :
    wrap32 ((wrap32 ((wrap32 ((wrap32 ((wrap32 (b0 - 240)) * 262144)) + (wrap32 ((b1 - 128) * 4096)))) + (wrap32 ((b2 - 128) * 64)))) + (b3 - 128)) = (b0 - 240) * 262144 + (b1 - 128) * 4096 + (b2 - 128) * 64 + (b3 - 128) := by
  rw [w32 (b0 - 240) (by omega) (by omega), w32 ((b0 - 240) * 262144) (by omega) (by omega), w32 ((b1 - 128) * 4096) (by omega) (by omega), w32 ((b2 - 128) * 64) (by omega) (by omega), w32 ((b0 - 240) * 262144 + (b1 - 128) * 4096) (by omega) (by omega), w32 ((b0 - 240) * 262144 + (b1 - 128) * 4096 + (b2 - 128) * 64) (by omega) (by omega), w32 _ (by omega) (by omega)]

theorem one_pure (k : Nat) (b0 b1 b2 b3 : Nat) (X Y Z : Bool) (hb0 : b0 < 256) (e1 : X = true → 128 ≤ b1 ∧ b1 ≤ 191) (e2 : Y = true → 128 ≤ b2 ∧ b2 ≤ 191) (e3 : Z = true → 128 ≤ b3 ∧ b3 ≤ 191) (p1 p2 p3 : Int × Bool)
    (hp1 : p1 = if X = true then ((b1 : Int) - 128, true) else (0, false)) (hp2 : p2 = if Y = true then ((b2 : Int) - 128, true) else (0, false)) (hp3 : p3 = if Z = true then ((b3 : Int) - 128, true) else (0, false)) :
    (if (b0 : Int) < 128 then (some ((b0 : Int), 1)) else (if (b0 : Int) ≥ 194 then (if (b0 : Int) ≤ 223 then (inkhornref1_one.j0 (k + 2) (b0 : Int) p1.1 p1.2 p2.1 p2.2 p3.1 p3.2 p1.2) else (inkhornref1_one.j0 (k + 2) (b0 : Int) p1.1 p1.2 p2.1 p2.2 p3.1 p3.2 false)) else (inkhornref1_one.j0 (k + 2) (b0 : Int) p1.1 p1.2 p2.1 p2.2 p3.1 p3.2 false))) = some (oneN b0 b1 b2 b3 X Y Z) := by
  unfold oneN
  by_cases c1 : b0 < 128
  · rw [if_pos (by omega), if_pos c1]
  rw [if_neg (by omega), if_neg c1]
  by_cases r2 : 194 ≤ b0 ∧ b0 ≤ 223
  · rw [if_pos (by omega), if_pos (by omega)]
    simp only [inkhornref1_one.j0]
    cases X with
    | true =>
      obtain ⟨f1, f2⟩ := e1 rfl
      subst hp1
      simp only [if_true]
      rw [if_pos ⟨r2.1, r2.2, trivial⟩, v2 _ _ (by omega) (by omega) (by omega) (by omega)]
    | false =>
      subst hp1
      simp only [Bool.false_eq_true, if_false, and_false, false_and]
      rw [if_neg (by omega)]
      simp only [inkhornref1_one.j1, Bool.false_eq_true, if_false]
      rw [if_neg (by omega)]
  · rw [if_neg (c := 194 ≤ b0 ∧ b0 ≤ 223 ∧ X = true) (by omega)]
    have hL : ∀ u v : Option (Int × Int), u = v → (if (b0 : Int) ≥ 194 then (if (b0 : Int) ≤ 223 then (inkhornref1_one.j0 (k + 2) (b0 : Int) p1.1 p1.2 p2.1 p2.2 p3.1 p3.2 p1.2) else u) else u) = v := by
      intro u v huv
      by_cases h : (b0 : Int) ≥ 194
      · rw [if_pos h, if_neg (by omega)]; exact huv
      · rw [if_neg h]; exact huv
    apply hL
    simp only [inkhornref1_one.j0, Bool.false_eq_true, if_false]
    by_cases r3 : 224 ≤ b0 ∧ b0 ≤ 239
    · rw [if_pos (by omega), if_pos (by omega)]
      cases X with
      | false =>
        subst hp1
        simp only [Bool.false_eq_true, if_false, and_false, false_and, inkhornref1_one.j1]
        rw [if_neg (by omega)]
      | true =>
        obtain ⟨f1, f2⟩ := e1 rfl
        subst hp1
        simp only [if_true]
        cases Y with
        | true =>
          obtain ⟨g1, g2⟩ := e2 rfl
          subst hp2
          simp only [if_true, inkhornref1_one.j1]
          rw [if_pos ⟨r3.1, r3.2, trivial, trivial⟩, v3 _ _ _ (by omega) (by omega) (by omega) (by omega) (by omega) (by omega)]
        | false =>
          subst hp2
          simp only [Bool.false_eq_true, if_false, and_false, false_and, inkhornref1_one.j1]
          rw [if_neg (by omega)]
    · rw [if_neg (c := 224 ≤ b0 ∧ b0 ≤ 239 ∧ X = true ∧ Y = true) (by omega)]
      have hM : ∀ u v : Option (Int × Int), u = v → (if (b0 : Int) ≥ 224 then (if (b0 : Int) ≤ 239 then (if p1.2 = true then (inkhornref1_one.j1 (k + 1) (b0 : Int) p1.1 p1.2 p2.1 p2.2 p3.1 p3.2 p2.2) else u) else u) else u) = v := by
        intro u v huv
        by_cases h : (b0 : Int) ≥ 224
        · rw [if_pos h, if_neg (by omega)]; exact huv
        · rw [if_neg h]; exact huv
      apply hM
      simp only [inkhornref1_one.j1, Bool.false_eq_true, if_false]
      by_cases r4 : 240 ≤ b0 ∧ b0 ≤ 244
      · rw [if_pos (by omega), if_pos (by omega)]
        cases X with
        | false => subst hp1; simp
        | true =>
          obtain ⟨f1, f2⟩ := e1 rfl
          subst hp1
          simp only [if_true]
          cases Y with
          | false => subst hp2; simp
          | true =>
            obtain ⟨g1, g2⟩ := e2 rfl
            subst hp2
            simp only [if_true]
            cases Z with
            | false => subst hp3; simp
            | true =>
              obtain ⟨k1, k2⟩ := e3 rfl
              subst hp3
              simp only [if_true]
              rw [if_pos ⟨r4.1, r4.2, trivial, trivial, trivial⟩, v4 _ _ _ _ (by omega) (by omega) (by omega) (by omega) (by omega) (by omega) (by omega) (by omega)]
      · rw [if_neg (c := 240 ≤ b0 ∧ b0 ≤ 244 ∧ X = true ∧ Y = true ∧ Z = true) (by omega)]
        by_cases h : (b0 : Int) ≥ 240
        · rw [if_pos h, if_neg (by omega)]
        · rw [if_neg h]

theorem one_eq (s : ByteArray) (i k : Nat) (hi : i < s.size) (hs : s.size ≤ 1048576) :
    inkhornref1_one.f (k + 2) s (i : Int) = some (oneN (s.get! i).toNat (s.get! (i + 1)).toNat (s.get! (i + 2)).toNat (s.get! (i + 3)).toNat (contB s (i + 1)) (contB s (i + 2)) (contB s (i + 3))) := by
  unfold inkhornref1_one.f
  have h0 := (s.get! i).toNat_lt
  rw [if_pos (by omega), if_pos (by omega), w64 ((i : Int) + 1) (by omega) (by omega), w64 ((i : Int) + 2) (by omega) (by omega), w64 ((i : Int) + 3) (by omega) (by omega)]
  rw [show (i : Int) + 1 = ((i + 1 : Nat) : Int) from by omega, show (i : Int) + 2 = ((i + 2 : Nat) : Int) from by omega, show (i : Int) + 3 = ((i + 3 : Nat) : Int) from by omega]
  rw [more_eq, more_eq, more_eq, bt_bang s i hi]
  have e1 : contB s (i + 1) = true → 128 ≤ (s.get! (i + 1)).toNat ∧ (s.get! (i + 1)).toNat ≤ 191 := by unfold contB; simp; omega
  have e2 : contB s (i + 2) = true → 128 ≤ (s.get! (i + 2)).toNat ∧ (s.get! (i + 2)).toNat ≤ 191 := by unfold contB; simp; omega
  have e3 : contB s (i + 3) = true → 128 ≤ (s.get! (i + 3)).toNat ∧ (s.get! (i + 3)).toNat ≤ 191 := by unfold contB; simp; omega
  generalize hp1 : (if contB s (i + 1) = true then (((s.get! (i + 1)).toNat : Int) - 128, true) else (0, false)) = p1
  generalize hp2 : (if contB s (i + 2) = true then (((s.get! (i + 2)).toNat : Int) - 128, true) else (0, false)) = p2
  generalize hp3 : (if contB s (i + 3) = true then (((s.get! (i + 3)).toNat : Int) - 128, true) else (0, false)) = p3
  generalize (s.get! i).toNat = b0 at *
  generalize (s.get! (i + 1)).toNat = b1 at *
  generalize (s.get! (i + 2)).toNat = b2 at *
  generalize (s.get! (i + 3)).toNat = b3 at *
  generalize contB s (i + 1) = X at *
  generalize contB s (i + 2) = Y at *
  generalize contB s (i + 3) = Z at *
  have hw : wrap32 (b0 : Int) = (b0 : Int) := w32 _ (by omega) (by omega)
  rw [Option.bind_some, Option.bind_some, Option.bind_some, hw]
  exact one_pure k b0 b1 b2 b3 X Y Z h0 e1 e2 e3 p1 p2 p3 hp1.symm hp2.symm hp3.symm

theorem good_f (r : Int) : inkhornref1_Good.f r = some (goodB r) := by
  unfold inkhornref1_Good.f goodB
  repeat' split
  all_goals
    congr 1
    first
    | (rw [eq_comm, decide_eq_false_iff_not]; omega)
    | (rw [Bool.eq_iff_iff, bne_iff_ne, decide_eq_true_eq]; omega)

def decX (b0 b1 b2 b3 : Nat) (q6 q14 q30 X Y Z : Bool) : Nat × Nat :=
  if b0 < 128 then (b0, 1)
  else if (q6 && X) = true then
    if b0 % 32 * 64 + b1 % 64 ≥ 128 then (b0 % 32 * 64 + b1 % 64, 2) else (65533, 1)
  else if (q14 && X && Y) = true then
    if (decide (b0 % 16 * 4096 + b1 % 64 * 64 + b2 % 64 ≥ 2048) && Utf8.valid ((b0 % 16 * 4096 + b1 % 64 * 64 + b2 % 64 : Nat) : Int)) = true then (b0 % 16 * 4096 + b1 % 64 * 64 + b2 % 64, 3) else (65533, 1)
  else if (q30 && X && Y && Z) = true then
    if (decide (b0 % 8 * 262144 + b1 % 64 * 4096 + b2 % 64 * 64 + b3 % 64 ≥ 65536) && Utf8.valid ((b0 % 8 * 262144 + b1 % 64 * 4096 + b2 % 64 * 64 + b3 % 64 : Nat) : Int)) = true then (b0 % 8 * 262144 + b1 % 64 * 4096 + b2 % 64 * 64 + b3 % 64, 4) else (65533, 1)
  else (65533, 1)
theorem decN_X (b0 b1 b2 b3 : Nat) (l1 l2 l3 : Bool) : decN b0 b1 b2 b3 l1 l2 l3 = decX b0 b1 b2 b3 (b0 / 32 == 6) (b0 / 16 == 14) (b0 / 8 == 30) (l1 && b1 / 64 == 2) (l2 && b2 / 64 == 2) (l3 && b3 / 64 == 2) := rfl

/-- What the reference reads (p) against what the model decodes (d). -/
def Agrees (p : Int × Int) (d : Nat × Nat) : Prop :=
  (if p.2 = 0 ∨ goodB p.1 = false ∨ (p.2 = 3 ∧ p.1 < 2048) ∨ (p.2 = 4 ∧ p.1 < 65536) then d.1 = 65533 else d = (p.1.toNat, p.2.toNat) ∧ 1 ≤ p.2 ∧ p.2 ≤ 4 ∧ 0 ≤ p.1 ∧ p.1 ≠ 65533)
theorem agrees_none {d : Nat × Nat} (h : d.1 = 65533) : Agrees (0, 0) d := by unfold Agrees; rw [if_pos (.inl rfl)]; exact h
theorem agrees_rune (r w : Nat) (hw : 1 ≤ w) (hw2 : w ≤ 4) (h3 : w = 3 → 2048 ≤ r) (h4 : w = 4 → 65536 ≤ r) (d : Nat × Nat) (hd : goodB (r : Int) = true → d = (r, w)) (hb : goodB (r : Int) = false → d.1 = 65533) : Agrees ((r : Int), (w : Int)) d := by
  unfold Agrees
  by_cases hg : goodB (r : Int) = true
  · rw [if_neg (by simp only [hg]; simp; omega), hd hg]
    have hgv := (goodB_iff _).1 hg
    exact ⟨by simp, by simp only; omega, by simp only; omega, by simp only; omega, hgv.2⟩
  · have hg2 : goodB (r : Int) = false := by simpa using hg
    rw [if_pos (.inr (.inl hg2))]
    exact hb hg2
theorem agrees_long (r w : Nat) (h : (w = 3 ∧ r < 2048) ∨ (w = 4 ∧ r < 65536)) (d : Nat × Nat) (hd : d.1 = 65533) : Agrees ((r : Int), (w : Int)) d := by
  unfold Agrees
  rw [if_pos (by simp only; omega)]
  exact hd
theorem not_good {r : Nat} (h : goodB (r : Int) = false) : r = 65533 ∨ Utf8.valid (r : Int) = false := by
  cases hv : Utf8.valid (r : Int) with
  | false => exact .inr rfl
  | true =>
    refine .inl (Decidable.byContradiction fun hne => ?_)
    rw [(goodB_iff _).2 ⟨hv, by omega⟩] at h
    cases h

theorem one_dec (b0 b1 b2 b3 : Nat) (l1 l2 l3 : Bool) (h0 : b0 < 256) (h1 : b1 < 256) (h2 : b2 < 256) (h3 : b3 < 256) :
    Agrees (oneN b0 b1 b2 b3 (l1 && b1 / 64 == 2) (l2 && b2 / 64 == 2) (l3 && b3 / 64 == 2)) (decN b0 b1 b2 b3 l1 l2 l3) := by
  rw [decN_X]
  have e1 : (l1 && b1 / 64 == 2) = true → 128 ≤ b1 ∧ b1 ≤ 191 := by simp; omega
  have e2 : (l2 && b2 / 64 == 2) = true → 128 ≤ b2 ∧ b2 ≤ 191 := by simp; omega
  have e3 : (l3 && b3 / 64 == 2) = true → 128 ≤ b3 ∧ b3 ≤ 191 := by simp; omega
  generalize (l1 && b1 / 64 == 2) = X at *
  generalize (l2 && b2 / 64 == 2) = Y at *
  generalize (l3 && b3 / 64 == 2) = Z at *
  by_cases c1 : b0 < 128
  · unfold oneN decX
    rw [if_pos c1, if_pos c1]
    have hg : goodB (b0 : Int) = true := by unfold goodB; rw [decide_eq_true_eq]; omega
    exact agrees_rune b0 1 (by omega) (by omega) (by omega) (by omega) _ (fun _ => rfl) (fun h => by rw [hg] at h; cases h)
  by_cases c2 : b0 ≤ 223
  · have q14 : (b0 / 16 == 14) = false := by rw [beq_eq_false_iff_ne]; omega
    have q30 : (b0 / 8 == 30) = false := by rw [beq_eq_false_iff_ne]; omega
    rw [q14, q30]
    unfold oneN decX
    rw [if_neg c1, if_neg c1]
    simp only [Bool.false_and, Bool.false_eq_true, if_false]
    rw [if_neg (c := 224 ≤ b0 ∧ b0 ≤ 239 ∧ X = true ∧ Y = true) (by omega), if_neg (c := 240 ≤ b0 ∧ b0 ≤ 244 ∧ X = true ∧ Y = true ∧ Z = true) (by omega)]
    cases X with
    | false =>
      simp only [Bool.and_false, Bool.false_eq_true, and_false, if_false]
      exact agrees_none rfl
    | true =>
      obtain ⟨f1, f2⟩ := e1 rfl
      simp only [Bool.and_true, and_true]
      by_cases c3 : 192 ≤ b0
      · have q6 : (b0 / 32 == 6) = true := by rw [beq_iff_eq]; omega
        rw [q6]
        simp only [if_true]
        by_cases c4 : 194 ≤ b0
        · rw [if_pos (by omega), if_pos (by omega)]
          have er : (((b0 : Int) - 192) * 64 + ((b1 : Int) - 128)) = ((b0 % 32 * 64 + b1 % 64 : Nat) : Int) := by omega
          rw [er]
          have hg : goodB ((b0 % 32 * 64 + b1 % 64 : Nat) : Int) = true := by unfold goodB; rw [decide_eq_true_eq]; omega
          exact agrees_rune _ 2 (by omega) (by omega) (by omega) (by omega) _ (fun _ => rfl) (fun h => by rw [hg] at h; cases h)
        · rw [if_neg (by omega), if_neg (by omega)]
          exact agrees_none rfl
      · have q6 : (b0 / 32 == 6) = false := by rw [beq_eq_false_iff_ne]; omega
        rw [q6]
        simp only [Bool.false_eq_true, if_false]
        rw [if_neg (by omega)]
        exact agrees_none rfl
  by_cases c3 : b0 ≤ 239
  · have q6 : (b0 / 32 == 6) = false := by rw [beq_eq_false_iff_ne]; omega
    have q14 : (b0 / 16 == 14) = true := by rw [beq_iff_eq]; omega
    have q30 : (b0 / 8 == 30) = false := by rw [beq_eq_false_iff_ne]; omega
    rw [q6, q14, q30]
    unfold oneN decX
    rw [if_neg c1, if_neg c1]
    simp only [Bool.false_and, Bool.true_and, Bool.false_eq_true, if_false]
    rw [if_neg (c := 194 ≤ b0 ∧ b0 ≤ 223 ∧ X = true) (by omega), if_neg (c := 240 ≤ b0 ∧ b0 ≤ 244 ∧ X = true ∧ Y = true ∧ Z = true) (by omega)]
    cases X with
    | false =>
      simp only [Bool.false_and, Bool.false_eq_true, and_false, false_and, if_false]
      exact agrees_none rfl
    | true =>
    cases Y with
    | false =>
      simp only [Bool.and_false, Bool.false_eq_true, and_false, if_false]
      exact agrees_none rfl
    | true =>
      obtain ⟨f1, f2⟩ := e1 rfl
      obtain ⟨g1, g2⟩ := e2 rfl
      simp only [Bool.and_true, if_true, and_true]
      rw [if_pos (by omega)]
      have er : (((b0 : Int) - 224) * 4096 + ((b1 : Int) - 128) * 64 + ((b2 : Int) - 128)) = ((b0 % 16 * 4096 + b1 % 64 * 64 + b2 % 64 : Nat) : Int) := by omega
      rw [er]
      generalize b0 % 16 * 4096 + b1 % 64 * 64 + b2 % 64 = r at *
      by_cases c4 : r < 2048
      · rw [decide_eq_false (by omega), Bool.false_and, if_neg (by simp)]
        exact agrees_long r 3 (.inl ⟨rfl, c4⟩) _ rfl
      · rw [decide_eq_true (by omega), Bool.true_and]
        refine agrees_rune r 3 (by omega) (by omega) (by omega) (by omega) _ (fun hg => ?_) (fun hg => ?_)
        · rw [if_pos ((goodB_iff _).1 hg).1]
        · rcases not_good hg with h | h
          · subst h
            by_cases hv : Utf8.valid ((65533 : Nat) : Int) = true
            · rw [if_pos hv]
            · rw [if_neg hv]
          · rw [h, if_neg (by simp)]
  have q6 : (b0 / 32 == 6) = false := by rw [beq_eq_false_iff_ne]; omega
  have q14 : (b0 / 16 == 14) = false := by rw [beq_eq_false_iff_ne]; omega
  rw [q6, q14]
  unfold oneN decX
  rw [if_neg c1, if_neg c1]
  simp only [Bool.false_and, Bool.false_eq_true, if_false]
  rw [if_neg (c := 194 ≤ b0 ∧ b0 ≤ 223 ∧ X = true) (by omega), if_neg (c := 224 ≤ b0 ∧ b0 ≤ 239 ∧ X = true ∧ Y = true) (by omega)]
  cases X with
  | false =>
    simp only [Bool.and_false, Bool.false_and, Bool.false_eq_true, and_false, false_and, if_false]
    exact agrees_none rfl
  | true =>
  cases Y with
  | false =>
    simp only [Bool.and_false, Bool.false_and, Bool.false_eq_true, and_false, false_and, if_false]
    exact agrees_none rfl
  | true =>
  cases Z with
  | false =>
    simp only [Bool.and_false, Bool.false_eq_true, and_false, if_false]
    exact agrees_none rfl
  | true =>
    obtain ⟨f1, f2⟩ := e1 rfl
    obtain ⟨g1, g2⟩ := e2 rfl
    obtain ⟨k1, k2⟩ := e3 rfl
    simp only [Bool.and_true, and_true]
    by_cases c4 : b0 ≤ 247
    · have q30 : (b0 / 8 == 30) = true := by rw [beq_iff_eq]; omega
      rw [q30]
      simp only [if_true]
      by_cases c5 : b0 ≤ 244
      · rw [if_pos (by omega)]
        have er : (((b0 : Int) - 240) * 262144 + ((b1 : Int) - 128) * 4096 + ((b2 : Int) - 128) * 64 + ((b3 : Int) - 128)) = ((b0 % 8 * 262144 + b1 % 64 * 4096 + b2 % 64 * 64 + b3 % 64 : Nat) : Int) := by omega
        rw [er]
        generalize b0 % 8 * 262144 + b1 % 64 * 4096 + b2 % 64 * 64 + b3 % 64 = r at *
        by_cases c6 : r < 65536
        · rw [decide_eq_false (by omega), Bool.false_and, if_neg (by simp)]
          exact agrees_long r 4 (.inr ⟨rfl, c6⟩) _ rfl
        · rw [decide_eq_true (by omega), Bool.true_and]
          refine agrees_rune r 4 (by omega) (by omega) (by omega) (by omega) _ (fun hg => ?_) (fun hg => ?_)
          · rw [if_pos ((goodB_iff _).1 hg).1]
          · rcases not_good hg with h | h
            · omega
            · rw [h, if_neg (by simp)]
      · rw [if_neg (by omega)]
        have hv : Utf8.valid ((b0 % 8 * 262144 + b1 % 64 * 4096 + b2 % 64 * 64 + b3 % 64 : Nat) : Int) = false := by
          cases hvv : Utf8.valid ((b0 % 8 * 262144 + b1 % 64 * 4096 + b2 % 64 * 64 + b3 % 64 : Nat) : Int) with
          | false => rfl
          | true => have := (valid_iff _).1 hvv; omega
        rw [hv, Bool.and_false, if_neg (by simp)]
        exact agrees_none rfl
    · have q30 : (b0 / 8 == 30) = false := by rw [beq_eq_false_iff_ne]; omega
      rw [q30]
      simp only [Bool.false_eq_true, if_false]
      rw [if_neg (by omega)]
      exact agrees_none rfl
end Go.Proofs.Ytimndkjgagdphaa
