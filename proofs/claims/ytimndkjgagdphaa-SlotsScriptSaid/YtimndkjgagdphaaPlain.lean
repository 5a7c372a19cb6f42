/- Plain Lean: the runes of a string as the model decodes them, no program in sight. -/
import Derived.Laws.RangeAny
import Derived.Lib.RuneCount
namespace Go.Proofs.Ytimndkjgagdphaa

/-- The runes from byte pos on (at most fuel of them); none: one is 65533. -/
def runesFrom (s : ByteArray) : Nat → Nat → Option (List Int)
  | 0, _ => some []
  | f + 1, pos => if pos < s.size then
      if (Utf8.decode s pos).1 = 65533 then none else (runesFrom s f (pos + (Utf8.decode s pos).2)).map fun l => ((Utf8.decode s pos).1 : Int) :: l
    else some []
def runesOf (s : ByteArray) : Option (List Int) := runesFrom s s.size 0

/-- The length from byte pos on, n runes having been counted. -/
def lenFrom (s : ByteArray) : Nat → Nat → Int → Int
  | 0, _, n => n
  | f + 1, pos, n => if pos < s.size then
      if (Utf8.decode s pos).1 = 65533 then -1 else lenFrom s f (pos + (Utf8.decode s pos).2) (n + 1)
    else n
def lenOf (s : ByteArray) : Int := match runesOf s with | none => -1 | some l => l.length

theorem lenFrom_eq (s : ByteArray) : ∀ (f pos : Nat) (n : Int), lenFrom s f pos n = match runesFrom s f pos with | none => -1 | some l => n + l.length
  | 0, pos, n => by simp [lenFrom, runesFrom]
  | f + 1, pos, n => by
    unfold lenFrom runesFrom
    by_cases h : pos < s.size
    · rw [if_pos h, if_pos h]
      by_cases h2 : (Utf8.decode s pos).1 = 65533
      · rw [if_pos h2, if_pos h2]
      · rw [if_neg h2, if_neg h2, lenFrom_eq s f _ (n + 1)]
        cases runesFrom s f (pos + (Utf8.decode s pos).2) with
        | none => rfl
        | some l => show n + 1 + (l.length : Int) = n + ((l.length + 1 : Nat) : Int); omega
    · rw [if_neg h, if_neg h]; simp

theorem lenOf_eq (s : ByteArray) : lenFrom s s.size 0 0 = lenOf s := by
  rw [lenFrom_eq]; unfold lenOf runesOf; cases runesFrom s s.size 0 <;> simp

theorem lenFrom_end (s : ByteArray) (f pos : Nat) (n : Int) (h : ¬ pos < s.size) : lenFrom s f pos n = n := by
  cases f <;> simp [lenFrom, h]

theorem runesFrom_end (s : ByteArray) (f pos : Nat) (h : ¬ pos < s.size) : runesFrom s f pos = some [] := by
  cases f <;> simp [runesFrom, h]

theorem runesFrom_len (s : ByteArray) : ∀ (f pos : Nat) (l : List Int), runesFrom s f pos = some l → l.length ≤ f ∧ (pos ≤ s.size → l.length ≤ s.size - pos)
  | 0, pos, l, h => by simp [runesFrom] at h; subst h; simp
  | f + 1, pos, l, h => by
    unfold runesFrom at h
    by_cases hp : pos < s.size
    · rw [if_pos hp] at h
      by_cases h2 : (Utf8.decode s pos).1 = 65533
      · rw [if_pos h2] at h; simp at h
      · rw [if_neg h2] at h
        have hw := Lib.decode_width_pos s pos hp
        cases hr : runesFrom s f (pos + (Utf8.decode s pos).2) with
        | none => rw [hr] at h; simp at h
        | some l2 =>
          rw [hr] at h; simp at h; subst h
          have ih := runesFrom_len s f _ l2 hr
          have h1 := ih.1
          refine ⟨by simp; omega, fun _ => ?_⟩
          by_cases hq : pos + (Utf8.decode s pos).2 ≤ s.size
          · have := ih.2 hq; simp; omega
          · rw [runesFrom_end s f _ (by omega)] at hr
            simp at hr; subst hr; simp; omega
    · rw [if_neg hp] at h; simp at h; subst h; simp

theorem lenOf_bd (s : ByteArray) : -1 ≤ lenOf s ∧ lenOf s ≤ s.size := by
  unfold lenOf
  cases h : runesOf s with
  | none => simp
  | some l => have := (runesFrom_len s _ _ _ h).1; simp; omega


/-- Where the n first runes from byte pos on end (at most fuel of them). -/
def cutFrom (s : ByteArray) : Nat → Nat → Int → Nat
  | 0, _, _ => s.size
  | f + 1, pos, n => if pos < s.size then if n = 0 then pos else cutFrom s f (pos + (Utf8.decode s pos).2) (n - 1) else s.size
def prefixOf (s : ByteArray) (n : Int) : ByteArray := if lenOf s < 0 ∨ n < 1 then ⟨#[]⟩ else s.extract 0 (cutFrom s s.size 0 n)

theorem cutFrom_end (s : ByteArray) (f pos : Nat) (n : Int) (h : ¬ pos < s.size) : cutFrom s f pos n = s.size := by
  cases f <;> simp [cutFrom, h]

def wordB (s : ByteArray) : Bool := decide (1 ≤ lenOf s) && decide (lenOf s ≤ 12)
def askedB (s : ByteArray) : Bool := decide (0 ≤ lenOf s) && decide (lenOf s ≤ 16)
end Go.Proofs.Ytimndkjgagdphaa
