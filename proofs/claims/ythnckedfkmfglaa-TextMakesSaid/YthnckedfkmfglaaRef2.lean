/- Plain law: the reference's Runes, Len, Word, Asked, Text and Prefix, as they are printed, come to the model's runes. -/
import Derived.Test.YthnckedfkmfglaaRef
namespace Go.Proofs.Ythnckedfkmfglaa
open Go.RowKit Go.Proofs.YthnckedfkmfglaaW.PrintWords Go.Proofs.YthnckedfkmfglaaW.PrintLast Go.Proofs.Ythnckedfkmfglaa.PTextTells

theorem ref_runes_l0 (s : ByteArray) (hs : s.size ≤ 1048576) : ∀ (f pos k : Nat) (acc : List Int), s.size ≤ pos + f → pos ≤ s.size + 4 → acc.length ≤ pos → f + 3 ≤ k →
    inkhornref1_Runes.l0 k s acc (pos : Int) = some (match runesFrom s f pos with | none => ([], false) | some l => (acc ++ l, true))
  | 0, pos, k, acc, h1, h2, h3, hk => by
    obtain ⟨k, rfl⟩ : ∃ m, k = m + 1 := ⟨k - 1, by omega⟩
    simp only [inkhornref1_Runes.l0]
    rw [if_neg (by omega)]
    simp [runesFrom]
  | f + 1, pos, k, acc, h1, h2, h3, hk => by
    obtain ⟨k, rfl⟩ : ∃ m, k = m + 1 := ⟨k - 1, by omega⟩
    by_cases hp : pos < s.size
    · have ag := one_dec (s.get! pos).toNat (s.get! (pos + 1)).toNat (s.get! (pos + 2)).toNat (s.get! (pos + 3)).toNat (decide (pos + 1 < s.size)) (decide (pos + 2 < s.size)) (decide (pos + 3 < s.size)) (UInt8.toNat_lt _) (UInt8.toNat_lt _) (UInt8.toNat_lt _) (UInt8.toNat_lt _)
      have e1 := one_eq s pos (k - 2) hp hs
      rw [show k - 2 + 2 = k from by omega] at e1
      unfold contB at e1
      rw [← decode_eq] at ag
      generalize oneN (s.get! pos).toNat (s.get! (pos + 1)).toNat (s.get! (pos + 2)).toNat (s.get! (pos + 3)).toNat (decide (pos + 1 < s.size) && (s.get! (pos + 1)).toNat / 64 == 2) (decide (pos + 2 < s.size) && (s.get! (pos + 2)).toNat / 64 == 2) (decide (pos + 3 < s.size) && (s.get! (pos + 3)).toNat / 64 == 2) = p at *
      simp only [inkhornref1_Runes.l0]
      rw [if_pos (by omega), e1, Option.bind_some]
      unfold runesFrom
      rw [if_pos hp]
      unfold Agrees at ag
      by_cases hbad : p.2 = 0 ∨ goodB p.1 = false ∨ (p.2 = 3 ∧ p.1 < 2048) ∨ (p.2 = 4 ∧ p.1 < 65536)
      · rw [if_pos hbad] at ag
        rw [if_pos ag]
        simp only
        by_cases b1 : p.2 = 0
        · rw [if_pos b1]
        · rw [if_neg b1, good_f, Option.bind_some]
          by_cases b2 : goodB p.1 = true
          · rw [if_pos b2]
            by_cases b3 : p.2 = 3
            · rw [if_pos b3, if_pos (by rcases hbad with h | h | h | h <;> simp_all)]
            · rw [if_neg b3, if_pos (c := p.2 = 4) (by rcases hbad with h | h | h | h <;> simp_all), if_pos (by rcases hbad with h | h | h | h <;> simp_all)]
          · rw [if_neg b2]
      · rw [if_neg hbad] at ag
        obtain ⟨hd, hw1, hw2, hr0, hr1⟩ := ag
        have hg : goodB p.1 = true := by
          cases h : goodB p.1 with
          | true => rfl
          | false => exact absurd (.inr (.inl h)) hbad
        have n3 : ¬ (p.2 = 3 ∧ p.1 < 2048) := fun h => hbad (.inr (.inr (.inl h)))
        have n4 : ¬ (p.2 = 4 ∧ p.1 < 65536) := fun h => hbad (.inr (.inr (.inr h)))
        have ih := ref_runes_l0 s hs f (pos + p.2.toNat) k (acc ++ [p.1]) (by omega) (by omega) (by simp; omega) (by omega)
        have hpos : ((pos + p.2.toNat : Nat) : Int) = wrap64 ((pos : Int) + p.2) := by rw [w64 _ (by omega) (by omega)]; omega
        rw [hpos] at ih
        have hfin : (match if (Utf8.decode s pos).1 = 65533 then none else (runesFrom s f (pos + (Utf8.decode s pos).2)).map fun l => ((Utf8.decode s pos).1 : Int) :: l with | none => (([] : List Int), false) | some l => (acc ++ l, true)) =
            (match runesFrom s f (pos + p.2.toNat) with | none => ([], false) | some l => ((acc ++ [p.1]) ++ l, true)) := by
          rw [hd]
          simp only
          rw [if_neg (by omega)]
          cases runesFrom s f (pos + p.2.toNat) with
          | none => rfl
          | some l =>
            have e : ((p.1.toNat : Nat) : Int) = p.1 := by omega
            simp [e]
        rw [hfin, ← ih, if_neg (by omega), good_f, Option.bind_some, if_pos hg, if_pos (c := acc.length < 35184372088832) (by omega)]
        by_cases b3 : p.2 = 3
        · rw [if_pos b3, if_neg (by omega), if_neg (by omega)]
        · rw [if_neg b3]
          by_cases b4 : p.2 = 4
          · rw [if_pos b4, if_neg (by omega)]
          · rw [if_neg b4]
    · simp only [inkhornref1_Runes.l0]
      rw [if_neg (by omega), runesFrom_end s _ _ hp]
      simp

theorem ref_runes (s : ByteArray) (hs : s.size ≤ 1048576) (k : Nat) (hk : s.size + 3 ≤ k) :
    inkhornref1_Runes.f k s = some (match runesOf s with | none => ([], false) | some l => (l, true)) := by
  have h := ref_runes_l0 s hs s.size 0 k [] (by omega) (by omega) (by simp) hk
  unfold inkhornref1_Runes.f runesOf
  simp only [List.nil_append] at h
  exact h
theorem ref_len (s : ByteArray) (hs : s.size ≤ 1048576) (k : Nat) (hk : s.size + 3 ≤ k) : inkhornref1_Len.f k s = some (lenOf s) := by
  unfold inkhornref1_Len.f lenOf
  rw [ref_runes s hs k hk, Option.bind_some]
  cases runesOf s <;> rfl
theorem ref_word (s : ByteArray) (hs : s.size ≤ 1048576) (k : Nat) (hk : s.size + 3 ≤ k) : inkhornref1_Word.f k s = some (wordB s) := by
  unfold inkhornref1_Word.f wordB
  rw [ref_len s hs k hk, Option.bind_some, Option.bind_some]
  by_cases h : 1 ≤ lenOf s
  · rw [if_pos h, decide_eq_true h, Bool.true_and]
  · rw [if_neg h, decide_eq_false h, Bool.false_and]
theorem ref_asked (s : ByteArray) (hs : s.size ≤ 1048576) (k : Nat) (hk : s.size + 3 ≤ k) : inkhornref1_Asked.f k s = some (askedB s) := by
  unfold inkhornref1_Asked.f askedB
  rw [ref_len s hs k hk, Option.bind_some, Option.bind_some]
  by_cases h : 0 ≤ lenOf s
  · rw [if_pos h, decide_eq_true h, Bool.true_and]
  · rw [if_neg h, decide_eq_false h, Bool.false_and]

theorem toN (x : Int) (n : Nat) (h : x = n) : UInt8.ofNat x.toNat = UInt8.ofNat n := by subst h; simp

theorem bytes_f (r : Int) (hv : Utf8.valid r = true) : ∃ b, inkhornref1_bytes.f r = some b ∧ b.data.toList = encL r := by
  have hvi := (valid_iff r).1 hv
  unfold inkhornref1_bytes.f
  rcases encL_cases r hv with ⟨c, rfl, h1, e⟩ | ⟨c, rfl, h1, h2, e⟩ | ⟨c, rfl, h1, h2, e⟩ | ⟨c, rfl, h1, h2, e⟩
  · rw [if_pos (by omega)]
    refine ⟨_, rfl, ?_⟩
    rw [e, strOfNums_data]
    simp only [List.map_cons, List.map_nil, List.cons.injEq, and_true]
    exact toN _ _ (by omega)
  · rw [if_neg (by omega), if_pos (by omega)]
    refine ⟨_, rfl, ?_⟩
    rw [e, strOfNums_data]
    simp only [List.map_cons, List.map_nil, List.cons.injEq, and_true]
    rw [Int.tdiv_eq_ediv_of_nonneg (by omega), Int.tmod_eq_emod_of_nonneg (by omega)]
    rw [w32 ((c : Int) / 64) (by omega) (by omega), w32 (192 + (c : Int) / 64) (by omega) (by omega), w32 (128 + (c : Int) % 64) (by omega) (by omega)]
    exact ⟨toN _ _ (by omega), toN _ _ (by omega)⟩
  · rw [if_neg (by omega), if_neg (by omega), if_pos (by omega)]
    refine ⟨_, rfl, ?_⟩
    rw [e, strOfNums_data]
    simp only [List.map_cons, List.map_nil, List.cons.injEq, and_true]
    rw [Int.tdiv_eq_ediv_of_nonneg (a := (c : Int)) (b := 4096) (by omega), Int.tdiv_eq_ediv_of_nonneg (a := (c : Int)) (b := 64) (by omega), Int.tmod_eq_emod_of_nonneg (a := (c : Int)) (by omega)]
    rw [w32 ((c : Int) / 4096) (by omega) (by omega), w32 ((c : Int) / 64) (by omega) (by omega), Int.tmod_eq_emod_of_nonneg (a := (c : Int) / 64) (by omega)]
    rw [w32 (224 + (c : Int) / 4096) (by omega) (by omega), w32 (128 + (c : Int) / 64 % 64) (by omega) (by omega), w32 (128 + (c : Int) % 64) (by omega) (by omega)]
    exact ⟨toN _ _ (by omega), toN _ _ (by omega), toN _ _ (by omega)⟩
  · rw [if_neg (by omega), if_neg (by omega), if_neg (by omega)]
    refine ⟨_, rfl, ?_⟩
    rw [e, strOfNums_data]
    simp only [List.map_cons, List.map_nil, List.cons.injEq, and_true]
    rw [Int.tdiv_eq_ediv_of_nonneg (a := (c : Int)) (b := 262144) (by omega), Int.tdiv_eq_ediv_of_nonneg (a := (c : Int)) (b := 4096) (by omega), Int.tdiv_eq_ediv_of_nonneg (a := (c : Int)) (b := 64) (by omega), Int.tmod_eq_emod_of_nonneg (a := (c : Int)) (by omega)]
    rw [w32 ((c : Int) / 262144) (by omega) (by omega), w32 ((c : Int) / 4096) (by omega) (by omega), w32 ((c : Int) / 64) (by omega) (by omega), Int.tmod_eq_emod_of_nonneg (a := (c : Int) / 4096) (by omega), Int.tmod_eq_emod_of_nonneg (a := (c : Int) / 64) (by omega)]
    rw [w32 (240 + (c : Int) / 262144) (by omega) (by omega), w32 (128 + (c : Int) / 4096 % 64) (by omega) (by omega), w32 (128 + (c : Int) / 64 % 64) (by omega) (by omega), w32 (128 + (c : Int) % 64) (by omega) (by omega)]
    exact ⟨toN _ _ (by omega), toN _ _ (by omega), toN _ _ (by omega), toN _ _ (by omega)⟩

theorem encAll_le : ∀ rs : List Int, (∀ r ∈ rs, Good r) → (encAll rs).length ≤ 4 * rs.length
  | [], _ => by simp [encAll]
  | r :: rs, h => by
    have h1 := (encL_pos r (h r (List.mem_cons_self)).1).2
    have h2 := encAll_le rs (fun x hx => h x (List.mem_cons_of_mem _ hx))
    rw [encAll_cons, List.length_append, List.length_cons]; omega

theorem ref_text_l0 (l : List Int) (hl : l.length ≤ 1048576) : ∀ (d i k : Nat) (acc : ByteArray), l.length - i ≤ d → i ≤ l.length → d + 2 ≤ k → acc.size ≤ 4 * i →
    ∃ b, inkhornref1_Text.l0 k l acc (i : Int) = some (b, (l.drop i).all goodB) ∧ ((l.drop i).all goodB = true → b.data.toList = acc.data.toList ++ encAll (l.drop i)) ∧ ((l.drop i).all goodB = false → b = ⟨#[]⟩)
  | 0, i, k, acc, h1, h2, hk, ha => by
    obtain ⟨k, rfl⟩ : ∃ m, k = m + 1 := ⟨k - 1, by omega⟩
    have e : l.drop i = [] := List.drop_eq_nil_of_le (by omega)
    simp only [inkhornref1_Text.l0]
    rw [if_neg (by omega), e]
    exact ⟨acc, rfl, fun _ => by simp [encAll], fun h => by simp at h⟩
  | d + 1, i, k, acc, h1, h2, hk, ha => by
    obtain ⟨k, rfl⟩ : ∃ m, k = m + 1 := ⟨k - 1, by omega⟩
    simp only [inkhornref1_Text.l0]
    by_cases hi : i < l.length
    · have er : rd l (i : Int) = l[i] := by simp [rd, hi]
      rw [if_pos (by omega), if_pos (by omega), er, good_f, Option.bind_some, List.drop_eq_getElem_cons hi, List.all_cons]
      by_cases hg : goodB l[i] = true
      · have hgv := (goodB_iff _).1 hg
        obtain ⟨b, hb, hbd⟩ := bytes_f l[i] hgv.1
        have hbs : b.size ≤ 4 := by
          have h3 := (encL_pos l[i] hgv.1).2
          rw [← hbd, Array.length_toList] at h3
          exact h3
        rw [if_pos hg, hb, Option.bind_some, if_pos (by omega), hg, Bool.true_and]
        have hw : wrap64 ((i : Int) + 1) = ((i + 1 : Nat) : Int) := by rw [w64 _ (by omega) (by omega)]; omega
        rw [hw]
        obtain ⟨c, hc, hc1, hc2⟩ := ref_text_l0 l hl d (i + 1) k (acc ++ b) (by omega) (by omega) (by omega) (by rw [ByteArray.size_append]; omega)
        refine ⟨c, hc, fun h => ?_, hc2⟩
        rw [hc1 h, ByteArray.data_append, Array.toList_append, hbd, encAll_cons, List.append_assoc]
      · have hg2 : goodB l[i] = false := by simpa using hg
        rw [if_neg hg, hg2, Bool.false_and]
        exact ⟨_, rfl, fun (h : false = true) => absurd h (by decide), fun _ => rfl⟩
    · have e : l.drop i = [] := List.drop_eq_nil_of_le (by omega)
      rw [if_neg (by omega), e]
      exact ⟨acc, rfl, fun _ => by simp [encAll], fun h => by simp at h⟩

theorem ref_text (l : List Int) (hl : l.length ≤ 1048576) (k : Nat) (hk : l.length + 2 ≤ k) :
    inkhornref1_Text.f k l = some (if l.all goodB then runesBytes l else ⟨#[]⟩, l.all goodB) := by
  obtain ⟨b, hb, h1, h2⟩ := ref_text_l0 l hl l.length 0 k ⟨#[]⟩ (by omega) (by omega) hk (by show 0 ≤ 0; omega)
  unfold inkhornref1_Text.f
  rw [List.drop_zero] at hb h1 h2
  rw [show ((0 : Nat) : Int) = 0 from rfl] at hb
  rw [hb]
  cases hg : l.all goodB with
  | true =>
    have := h1 hg
    rw [if_pos rfl]
    congr 2
    apply ba_ext
    rw [this, runesBytes_enc]
    rfl
  | false => rw [h2 hg]; rfl

theorem all_take {l : List Int} (h : l.all goodB = true) (n : Nat) : (l.take n).all goodB = true := by
  rw [List.all_eq_true] at h ⊢
  exact fun x hx => h x (List.mem_of_mem_take hx)

theorem ref_prefix (s : ByteArray) (n : Int) (hs : s.size ≤ 1048576) (k : Nat) (hk : s.size + 3 ≤ k) : inkhornref1_Prefix.f k s n = some (prefixOf s n) := by
  unfold inkhornref1_Prefix.f
  rw [ref_runes s hs k hk, Option.bind_some]
  cases hr : runesOf s with
  | none =>
    have e : prefixOf s n = ⟨#[]⟩ := by unfold prefixOf lenOf; rw [hr]; rfl
    rw [e]
    simp only [List.length_nil, List.take_nil]
    by_cases h1 : n < 1
    · rw [if_pos h1]
    · rw [if_neg h1, if_neg (by omega), ref_text [] (by simp) k (by simp; omega), Option.bind_some]
      rfl
  | some l =>
    have hl := (runesFrom_len s _ _ _ hr).1
    have hL : lenOf s = l.length := by unfold lenOf; rw [hr]
    have hg : l.all goodB = true := by
      rw [List.all_eq_true]
      intro r h
      exact (goodB_iff r).2 (((runesOf_iff s l).1 hr).2 r h)
    simp only
    by_cases h1 : n < 1
    · rw [if_pos h1]
      have e : prefixOf s n = ⟨#[]⟩ := by unfold prefixOf; rw [if_pos (.inr h1)]
      rw [e]
    · obtain ⟨m, rfl⟩ : ∃ m : Nat, n = m := ⟨n.toNat, by omega⟩
      have hp := prefixOf_enc s l hr m (by omega)
      rw [if_neg h1]
      by_cases h2 : (m : Int) < (l.length : Int)
      · rw [if_pos h2, if_pos (by omega), if_pos (by omega), Int.toNat_natCast, ref_text (l.take m) (by simp; omega) k (by simp; omega), Option.bind_some, all_take hg m, if_pos rfl]
        congr 1
        apply ba_ext
        rw [hp, runesBytes_enc]
      · rw [if_neg h2, ref_text l (by omega) k (by omega), Option.bind_some, hg, if_pos rfl]
        congr 1
        apply ba_ext
        rw [hp, runesBytes_enc, List.take_of_length_le (by omega)]

theorem same_l0 (l : List Int) (hl : l.length ≤ 1048576) : ∀ (d i k : Nat), l.length - i ≤ d → i ≤ l.length → d + 1 ≤ k → inkhornlaw0_SameRunes.l0 k l l (i : Int) = some true
  | 0, i, k, h1, h2, hk => by
    obtain ⟨k, rfl⟩ : ∃ m, k = m + 1 := ⟨k - 1, by omega⟩
    simp only [inkhornlaw0_SameRunes.l0]
    rw [if_neg (by omega)]
  | d + 1, i, k, h1, h2, hk => by
    obtain ⟨k, rfl⟩ : ∃ m, k = m + 1 := ⟨k - 1, by omega⟩
    simp only [inkhornlaw0_SameRunes.l0]
    by_cases hi : i < l.length
    · rw [if_pos (by omega), if_pos (by omega), if_pos (by omega), if_pos trivial, w64 _ (by omega) (by omega), show (i : Int) + 1 = ((i + 1 : Nat) : Int) from by omega]
      exact same_l0 l hl d (i + 1) k (by omega) (by omega) (by omega)
    · rw [if_neg (by omega)]
theorem same_f (l : List Int) (hl : l.length ≤ 1048576) : inkhornlaw0_SameRunes.f (l.length + 1) l l = some true := by
  unfold inkhornlaw0_SameRunes.f
  rw [if_pos rfl]
  exact same_l0 l hl l.length 0 _ (by omega) (by omega) (by omega)

theorem over_l0 : ∀ (d i k : Nat) (l : List Int), l.length ≤ 1048576 → l.length - i ≤ d → i ≤ l.length → d + 1 ≤ k → inkhornlaw0_OverRunes.l0 k l (i : Int) = some ()
  | 0, i, k, l, hl, h1, h2, hk => by
    obtain ⟨k, rfl⟩ : ∃ m, k = m + 1 := ⟨k - 1, by omega⟩
    simp only [inkhornlaw0_OverRunes.l0]
    rw [if_neg (by omega), if_pos (by omega)]
  | d + 1, i, k, l, hl, h1, h2, hk => by
    obtain ⟨k, rfl⟩ : ∃ m, k = m + 1 := ⟨k - 1, by omega⟩
    simp only [inkhornlaw0_OverRunes.l0]
    by_cases hi : i < l.length
    · rw [if_pos (by omega), if_pos (by omega), w64 _ (by omega) (by omega), show (i : Int) + 1 = ((i + 1 : Nat) : Int) from by omega]
      exact over_l0 d (i + 1) k (l.set (i : Int).toNat (-9)) (by simpa using hl) (by simp; omega) (by simp; omega) (by omega)
    · rw [if_neg (by omega), if_pos (by omega)]
theorem over_f (l : List Int) (hl : l.length ≤ 1048576) : inkhornlaw0_OverRunes.f (l.length + 1) l = some () :=
  over_l0 l.length 0 _ l hl (by omega) (by omega) (by omega)
end Go.Proofs.Ythnckedfkmfglaa
