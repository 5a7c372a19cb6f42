/- Plain law: a text is well made just if it is the encoding of good runes; beginnings, joints, spoilt texts, order. -/
import Derived.Test.YthnckedfkmfglaaUtf
import Derived.Test.YthnckedfkmfglaaCmp
namespace Go.Proofs.Ythnckedfkmfglaa

def Good (r : Int) : Prop := Utf8.valid r = true ∧ r ≠ 65533
def encAll (rs : List Int) : List UInt8 := rs.flatMap encL

theorem encAll_nil : encAll [] = [] := rfl
theorem encAll_cons (r : Int) (rs : List Int) : encAll (r :: rs) = encL r ++ encAll rs := rfl
theorem encAll_append (a b : List Int) : encAll (a ++ b) = encAll a ++ encAll b := by simp [encAll]

/-- The encoding of a rune, byte by byte. -/
theorem encL_cases (r : Int) (hv : Utf8.valid r = true) :
    (∃ c : Nat, r = c ∧ c < 128 ∧ encL r = [UInt8.ofNat c]) ∨
    (∃ c : Nat, r = c ∧ 128 ≤ c ∧ c < 2048 ∧ encL r = [UInt8.ofNat (192 + c / 64), UInt8.ofNat (128 + c % 64)]) ∨
    (∃ c : Nat, r = c ∧ 2048 ≤ c ∧ c < 65536 ∧ encL r = [UInt8.ofNat (224 + c / 4096), UInt8.ofNat (128 + c / 64 % 64), UInt8.ofNat (128 + c % 64)]) ∨
    (∃ c : Nat, r = c ∧ 65536 ≤ c ∧ c ≤ 1114111 ∧ encL r = [UInt8.ofNat (240 + c / 262144), UInt8.ofNat (128 + c / 4096 % 64), UInt8.ofNat (128 + c / 64 % 64), UInt8.ofNat (128 + c % 64)]) := by
  have hvi := (valid_iff r).1 hv
  obtain ⟨c, rfl⟩ : ∃ c : Nat, r = c := ⟨r.toNat, by omega⟩
  by_cases c1 : c < 128
  · exact .inl ⟨c, rfl, c1, encL_1 c c1⟩
  · by_cases c2 : c < 2048
    · exact .inr (.inl ⟨c, rfl, by omega, c2, encL_2 c (by omega) c2⟩)
    · by_cases c3 : c < 65536
      · exact .inr (.inr (.inl ⟨c, rfl, by omega, c3, encL_3 c (by omega) c3 hv⟩))
      · exact .inr (.inr (.inr ⟨c, rfl, by omega, by omega, encL_4 c (by omega) hv⟩))

theorem encL_pos (r : Int) (hv : Utf8.valid r = true) : 1 ≤ (encL r).length ∧ (encL r).length ≤ 4 := by
  rcases encL_cases r hv with ⟨c, _, _, e⟩ | ⟨c, _, _, _, e⟩ | ⟨c, _, _, _, e⟩ | ⟨c, _, _, _, e⟩ <;> rw [e] <;> simp

theorem encAll_len : ∀ rs : List Int, (∀ r ∈ rs, Good r) → rs.length ≤ (encAll rs).length
  | [], _ => by simp
  | r :: rs, h => by
    have h1 := (encL_pos r (h r (List.mem_cons_self)).1).1
    have h2 := encAll_len rs (fun x hx => h x (List.mem_cons_of_mem _ hx))
    rw [encAll_cons, List.length_append, List.length_cons]; omega

theorem runesFrom_enc (s : ByteArray) : ∀ (f pos : Nat) (rs : List Int), s.size ≤ pos + f → pos ≤ s.size → runesFrom s f pos = some rs →
    s.data.toList.drop pos = encAll rs ∧ ∀ r ∈ rs, Good r
  | 0, pos, rs, h1, h2, h => by
    simp [runesFrom] at h
    subst h
    exact ⟨List.drop_eq_nil_of_le (by simp; exact (by omega : s.size ≤ pos)), by simp⟩
  | f + 1, pos, rs, h1, h2, h => by
    unfold runesFrom at h
    by_cases hp : pos < s.size
    · rw [if_pos hp] at h
      by_cases h5 : (Utf8.decode s pos).1 = 65533
      · rw [if_pos h5] at h; simp at h
      · rw [if_neg h5] at h
        obtain ⟨hv, hd, hw, hl⟩ := decode_good s pos hp h5
        cases hr : runesFrom s f (pos + (Utf8.decode s pos).2) with
        | none => rw [hr] at h; simp at h
        | some l =>
          rw [hr] at h; simp at h; subst h
          have hwp := Lib.decode_width_pos s pos hp
          obtain ⟨ih1, ih2⟩ := runesFrom_enc s f _ l (by omega) hw hr
          refine ⟨by rw [hd, ih1, encAll_cons], fun r hr => ?_⟩
          rcases List.mem_cons.1 hr with rfl | hr
          · exact ⟨hv, by omega⟩
          · exact ih2 r hr
    · rw [if_neg hp] at h
      simp at h; subst h
      exact ⟨List.drop_eq_nil_of_le (by simp; exact (by omega : s.size ≤ pos)), by simp⟩

theorem drop_more {s : ByteArray} {pos : Nat} {a b : List UInt8} (h : s.data.toList.drop pos = a ++ b) : s.data.toList.drop (pos + a.length) = b := by
  rw [← List.drop_drop, h]; simp

theorem enc_runesFrom (s : ByteArray) : ∀ (f pos : Nat) (rs : List Int), rs.length ≤ f → s.data.toList.drop pos = encAll rs → (∀ r ∈ rs, Good r) → runesFrom s f pos = some rs
  | f, pos, [], _, h, _ => by
    apply runesFrom_end
    intro hp
    rw [dropB s pos hp] at h
    simp [encAll] at h
  | 0, pos, r :: rs, hf, _, _ => by simp at hf
  | f + 1, pos, r :: rs, hf, h, hg => by
    have hgr := hg r (List.mem_cons_self)
    rw [encAll_cons] at h
    have hd := decode_enc s pos r _ hgr.1 h
    have hp : pos < s.size := by
      obtain ⟨b, t, e⟩ : ∃ b t, encL r = b :: t := by
        have := (encL_pos r hgr.1).1
        cases he : encL r with
        | nil => rw [he] at this; simp at this
        | cons b t => exact ⟨b, t, rfl⟩
      rw [e] at h
      exact (head_of_drop h).1
    have hvi := (valid_iff r).1 hgr.1
    have hne := hgr.2
    unfold runesFrom
    rw [if_pos hp, hd]
    simp only
    rw [if_neg (by omega), enc_runesFrom s f _ rs (by simp at hf; omega) (drop_more h) (fun x hx => hg x (List.mem_cons_of_mem _ hx))]
    simp
    omega

/-- A text's runes are rs just if it is their encoding and all are good. -/
theorem runesOf_iff (s : ByteArray) (rs : List Int) : runesOf s = some rs ↔ s.data.toList = encAll rs ∧ ∀ r ∈ rs, Good r := by
  constructor
  · intro h
    have := runesFrom_enc s s.size 0 rs (by omega) (by omega) h
    simpa using this
  · rintro ⟨h1, h2⟩
    have hl := encAll_len rs h2
    rw [← h1] at hl
    exact enc_runesFrom s s.size 0 rs (by simpa using hl) (by simpa using h1) h2

theorem cutFrom_enc (s : ByteArray) : ∀ (f pos : Nat) (rs : List Int) (n : Nat), rs.length ≤ f → pos ≤ s.size → s.data.toList.drop pos = encAll rs → (∀ r ∈ rs, Good r) →
    cutFrom s f pos (n : Int) = pos + (encAll (rs.take n)).length
  | f, pos, [], n, _, hps, h, _ => by
    have hp : ¬ pos < s.size := by
      intro hp
      rw [dropB s pos hp] at h
      simp [encAll] at h
    rw [cutFrom_end s f pos _ hp]
    simp [encAll]; omega
  | 0, pos, r :: rs, _, hf, _, _, _ => by simp at hf
  | f + 1, pos, r :: rs, n, hf, hps, h, hg => by
    have hgr := hg r (List.mem_cons_self)
    rw [encAll_cons] at h
    have hd := decode_enc s pos r _ hgr.1 h
    have hp : pos < s.size := by
      obtain ⟨b, t, e⟩ : ∃ b t, encL r = b :: t := by
        have := (encL_pos r hgr.1).1
        cases he : encL r with
        | nil => rw [he] at this; simp at this
        | cons b t => exact ⟨b, t, rfl⟩
      rw [e] at h
      exact (head_of_drop h).1
    unfold cutFrom
    rw [if_pos hp, hd]
    cases n with
    | zero => simp [encAll]
    | succ n =>
      have hle : pos + (encL r).length ≤ s.size := by
        have := congrArg List.length h
        simp at this
        have e : s.data.size = s.size := rfl
        omega
      have ih := cutFrom_enc s f (pos + (encL r).length) rs n (by simp at hf; omega) hle (drop_more h) (fun x hx => hg x (List.mem_cons_of_mem _ hx))
      rw [if_neg (by omega)]
      simp only
      rw [show ((n + 1 : Nat) : Int) - 1 = (n : Int) from by omega, ih, List.take_succ_cons, encAll_cons, List.length_append]
      omega

theorem ba_ext {a b : ByteArray} (h : a.data.toList = b.data.toList) : a = b := by
  cases a; cases b; simp at h; rw [h]

/-- A well made text's beginning of n runes (n from 1 on). -/
theorem prefixOf_enc (s : ByteArray) (rs : List Int) (h : runesOf s = some rs) (n : Nat) (hn : 1 ≤ n) : (prefixOf s (n : Int)).data.toList = encAll (rs.take n) := by
  obtain ⟨h1, h2⟩ := (runesOf_iff s rs).1 h
  have hl := encAll_len rs h2
  rw [← h1] at hl
  have hc := cutFrom_enc s s.size 0 rs n (by simpa using hl) (by omega) (by simpa using h1) h2
  unfold prefixOf
  have hL : lenOf s = rs.length := by unfold lenOf; rw [h]
  rw [if_neg (by rw [hL]; omega), hc, Nat.zero_add]
  rw [ByteArray.data_extract, Array.toList_extract, h1]
  simp only [List.extract_eq_take_drop, List.drop_zero, Nat.sub_zero]
  have : rs = rs.take n ++ rs.drop n := (List.take_append_drop n rs).symm
  conv => lhs; rw [this, encAll_append]
  simp

theorem runesOf_prefix (s : ByteArray) (rs : List Int) (h : runesOf s = some rs) (n : Nat) (hn : 1 ≤ n) : runesOf (prefixOf s (n : Int)) = some (rs.take n) :=
  (runesOf_iff _ _).2 ⟨prefixOf_enc s rs h n hn, fun r hr => ((runesOf_iff s rs).1 h).2 r (List.mem_of_mem_take hr)⟩

theorem runesOf_append (a b : ByteArray) (x y : List Int) (ha : runesOf a = some x) (hb : runesOf b = some y) : runesOf (a ++ b) = some (x ++ y) := by
  obtain ⟨a1, a2⟩ := (runesOf_iff a x).1 ha
  obtain ⟨b1, b2⟩ := (runesOf_iff b y).1 hb
  refine (runesOf_iff _ _).2 ⟨?_, fun r hr => ?_⟩
  · rw [ByteArray.data_append, Array.toList_append, a1, b1, encAll_append]
  · rcases List.mem_append.1 hr with h | h
    · exact a2 r h
    · exact b2 r h

/-! ### Bytes of encodings -/
theorem encL_low (r : Int) (hv : Utf8.valid r = true) : ∀ b ∈ encL r, b.toNat < 248 := by
  intro b hb
  rcases encL_cases r hv with ⟨c, _, h1, e⟩ | ⟨c, _, h1, h2, e⟩ | ⟨c, _, h1, h2, e⟩ | ⟨c, _, h1, h2, e⟩ <;> rw [e] at hb <;> simp only [List.mem_cons, List.not_mem_nil, or_false] at hb
  · subst hb; rw [toNat_ofNat' _ (by omega)]; omega
  · rcases hb with rfl | rfl <;> rw [toNat_ofNat' _ (by omega)] <;> omega
  · rcases hb with rfl | rfl | rfl <;> rw [toNat_ofNat' _ (by omega)] <;> omega
  · rcases hb with rfl | rfl | rfl | rfl <;> rw [toNat_ofNat' _ (by omega)] <;> omega
theorem encAll_low : ∀ rs : List Int, (∀ r ∈ rs, Good r) → ∀ b ∈ encAll rs, b.toNat < 248
  | [], _, b, hb => by simp [encAll] at hb
  | r :: rs, h, b, hb => by
    rw [encAll_cons] at hb
    rcases List.mem_append.1 hb with hb | hb
    · exact encL_low r (h r (List.mem_cons_self)).1 b hb
    · exact encAll_low rs (fun x hx => h x (List.mem_cons_of_mem _ hx)) b hb
theorem encL_head (r : Int) (hv : Utf8.valid r = true) : ∃ b t, encL r = b :: t ∧ (b.toNat < 128 ∨ 192 ≤ b.toNat) := by
  rcases encL_cases r hv with ⟨c, _, h1, e⟩ | ⟨c, _, h1, h2, e⟩ | ⟨c, _, h1, h2, e⟩ | ⟨c, _, h1, h2, e⟩
  · exact ⟨_, _, e, by rw [toNat_ofNat' _ (by omega)]; omega⟩
  · exact ⟨_, _, e, by rw [toNat_ofNat' _ (by omega)]; omega⟩
  · exact ⟨_, _, e, by rw [toNat_ofNat' _ (by omega)]; omega⟩
  · exact ⟨_, _, e, by rw [toNat_ofNat' _ (by omega)]; omega⟩

/-- A text with a byte of 248 or more is not well made. -/
theorem spoilt (s : ByteArray) (b : UInt8) (hb : b ∈ s.data.toList) (h : 248 ≤ b.toNat) : runesOf s = none := by
  cases hr : runesOf s with
  | none => rfl
  | some rs =>
    obtain ⟨h1, h2⟩ := (runesOf_iff s rs).1 hr
    rw [h1] at hb
    have := encAll_low rs h2 b hb
    omega

/-- A text that begins with a byte from 128 to 191 is not well made. -/
theorem spoilt_head (s : ByteArray) (b : UInt8) (t : List UInt8) (hs : s.data.toList = b :: t) (h0 : 128 ≤ b.toNat) (h1 : b.toNat ≤ 191) : runesOf s = none := by
  cases hr : runesOf s with
  | none => rfl
  | some rs =>
    obtain ⟨h2, h3⟩ := (runesOf_iff s rs).1 hr
    rw [hs] at h2
    cases rs with
    | nil => simp [encAll] at h2
    | cons r rs =>
      obtain ⟨c, u, e, hc⟩ := encL_head r (h3 r (List.mem_cons_self)).1
      rw [encAll_cons, e] at h2
      injection h2 with h4 h5
      subst h4
      omega

/-- What is decoded alike: a well made beginning of a well made text leaves a well made rest. -/
theorem rest_of : ∀ (x y : List Int) (t : List UInt8), (∀ r ∈ x, Good r) → (∀ r ∈ y, Good r) → encAll y = encAll x ++ t → ∃ z, t = encAll z ∧ ∀ r ∈ z, Good r
  | [], y, t, _, hy, h => ⟨y, by simpa [encAll] using h.symm, hy⟩
  | r :: x, [], t, hx, _, h => by
    have := (encL_pos r (hx r (List.mem_cons_self)).1).1
    have hl := congrArg List.length h
    rw [encAll_cons] at hl
    simp [encAll] at hl
    omega
  | r :: x, q :: y, t, hx, hy, h => by
    have gr := hx r (List.mem_cons_self)
    have gq := hy q (List.mem_cons_self)
    have e1 := decode_enc ⟨(encAll (q :: y)).toArray⟩ 0 q (encAll y) gq.1 (by simp [encAll_cons])
    have e2 := decode_enc ⟨(encAll (q :: y)).toArray⟩ 0 r (encAll x ++ t) gr.1 (by simp [h, encAll_cons])
    rw [e1] at e2
    injection e2 with e3 _
    have v1 := (valid_iff r).1 gr.1
    have v2 := (valid_iff q).1 gq.1
    obtain rfl : q = r := by omega
    rw [encAll_cons, encAll_cons, List.append_assoc] at h
    exact rest_of x y t (fun a ha => hx a (List.mem_cons_of_mem _ ha)) (fun a ha => hy a (List.mem_cons_of_mem _ ha)) (List.append_cancel_left h)

/-- A well made text that is cut ahead of a byte from 128 to 191: neither piece is well made. -/
theorem cut_spoilt (s : ByteArray) (rs : List Int) (h : runesOf s = some rs) (k : Nat) (hk : k < s.size) (h0 : 128 ≤ (s[k]'hk).toNat) (h1 : (s[k]'hk).toNat ≤ 191) :
    runesOf (s.extract 0 k) = none ∧ runesOf (s.extract k s.size) = none := by
  obtain ⟨h2, h3⟩ := (runesOf_iff s rs).1 h
  have ed : (s.extract k s.size).data.toList = s.data.toList.drop k := by
    rw [ByteArray.data_extract, Array.toList_extract]
    simp only [List.extract_eq_take_drop]
    rw [List.take_of_length_le]
    simp
  have et : (s.extract 0 k).data.toList = s.data.toList.take k := by
    rw [ByteArray.data_extract, Array.toList_extract]
    simp
  refine ⟨?_, spoilt_head _ _ _ (ed.trans (dropB s k hk)) h0 h1⟩
  cases hr : runesOf (s.extract 0 k) with
  | none => rfl
  | some x =>
    obtain ⟨h4, h5⟩ := (runesOf_iff _ x).1 hr
    obtain ⟨z, hz, hg⟩ := rest_of x rs (s.data.toList.drop k) h5 h3 (by rw [← h4, et, ← h2, List.take_append_drop])
    have hn := spoilt_head (s.extract k s.size) _ _ (ed.trans (dropB s k hk)) h0 h1
    have := (runesOf_iff (s.extract k s.size) z).2 ⟨ed.trans hz, hg⟩
    rw [hn] at this
    cases this

/-! ### Order -/
theorem cmp_same (p a b : List UInt8) : Lib.compareBytes (p ++ a) (p ++ b) = Lib.compareBytes a b := by
  induction p with
  | nil => rfl
  | cons x p ih =>
    show Lib.compareBytes (x :: (p ++ a)) (x :: (p ++ b)) = _
    rw [← ih]
    conv => lhs; unfold Lib.compareBytes
    have h : ¬ x < x := fun h => by have := UInt8.lt_iff_toNat_lt.1 h; omega
    rw [if_neg h, if_neg h]
theorem cmp_lt {x y : UInt8} (h : x.toNat < y.toNat) (a b : List UInt8) : Lib.compareBytes (x :: a) (y :: b) = -1 := by
  unfold Lib.compareBytes
  rw [if_pos (UInt8.lt_iff_toNat_lt.2 h)]
theorem cmp_step {x y : UInt8} (h : x.toNat = y.toNat) (a b : List UInt8) : Lib.compareBytes (x :: a) (y :: b) = Lib.compareBytes a b := by
  have e : x = y := UInt8.toNat_inj.1 h
  subst e
  exact cmp_same [x] a b

theorem two {x y : Nat} (hx : x < 256) (hy : y < 256) (a b : List UInt8) (h : x ≤ y) (h2 : x = y → Lib.compareBytes a b = -1) : Lib.compareBytes (UInt8.ofNat x :: a) (UInt8.ofNat y :: b) = -1 := by
  by_cases e : x = y
  · rw [cmp_step (by rw [e]), h2 e]
  · exact cmp_lt (by rw [toNat_ofNat' _ hx, toNat_ofNat' _ hy]; omega) a b

theorem enc_lt (r q : Int) (hr : Utf8.valid r = true) (hq : Utf8.valid q = true) (h : r < q) (a b : List UInt8) : Lib.compareBytes (encL r ++ a) (encL q ++ b) = -1 := by
  rcases encL_cases r hr with ⟨c, rfl, h1, e⟩ | ⟨c, rfl, h1, h2, e⟩ | ⟨c, rfl, h1, h2, e⟩ | ⟨c, rfl, h1, h2, e⟩ <;>
  rcases encL_cases q hq with ⟨d, rfl, g1, f⟩ | ⟨d, rfl, g1, g2, f⟩ | ⟨d, rfl, g1, g2, f⟩ | ⟨d, rfl, g1, g2, f⟩ <;>
  rw [e, f] <;> simp only [List.cons_append, List.nil_append] <;>
  first
  | omega
  | (refine two (by omega) (by omega) _ _ (by omega) (fun e0 => ?_) <;> first | (exfalso; omega) | (refine two (by omega) (by omega) _ _ (by omega) (fun e1 => ?_) <;> first | (exfalso; omega) | (refine two (by omega) (by omega) _ _ (by omega) (fun e2 => ?_) <;> first | (exfalso; omega) | (refine two (by omega) (by omega) _ _ (by omega) (fun e3 => ?_) <;> (exfalso; omega)))))

/-- The order of two lists of numbers. -/
def cmpI : List Int → List Int → Int
  | [], [] => 0
  | [], _ :: _ => -1
  | _ :: _, [] => 1
  | a :: x, b :: y => if a < b then -1 else if b < a then 1 else cmpI x y

theorem order : ∀ x y : List Int, (∀ r ∈ x, Good r) → (∀ r ∈ y, Good r) → Lib.compareBytes (encAll x) (encAll y) = cmpI x y
  | [], [], _, _ => rfl
  | [], q :: y, _, hy => by
    obtain ⟨b, t, e, _⟩ := encL_head q (hy q (List.mem_cons_self)).1
    rw [encAll_cons, e]; rfl
  | r :: x, [], hx, _ => by
    obtain ⟨b, t, e, _⟩ := encL_head r (hx r (List.mem_cons_self)).1
    rw [encAll_cons, e]; rfl
  | r :: x, q :: y, hx, hy => by
    have gr := (hx r (List.mem_cons_self)).1
    have gq := (hy q (List.mem_cons_self)).1
    rw [encAll_cons, encAll_cons]
    unfold cmpI
    by_cases h1 : r < q
    · rw [if_pos h1, enc_lt r q gr gq h1]
    · by_cases h2 : q < r
      · rw [if_neg h1, if_pos h2, cmp_neg, enc_lt q r gq gr h2]; rfl
      · obtain rfl : r = q := by omega
        rw [if_neg h1, if_neg h2, cmp_same]
        exact order x y (fun a ha => hx a (List.mem_cons_of_mem _ ha)) (fun a ha => hy a (List.mem_cons_of_mem _ ha))

/-- The bytes of runes, as the model's conversion makes them. -/
theorem runesBytes_enc (rs : List Int) : (runesBytes rs).data.toList = encAll rs := by
  have h : ∀ (rs : List Int) (s : ByteArray), (rs.foldl (fun r n => r ++ Utf8.encode n) s).data.toList = s.data.toList ++ encAll rs := by
    intro rs
    induction rs with
    | nil => intro s; simp [encAll]
    | cons r rs ih =>
      intro s
      rw [List.foldl_cons, ih, ByteArray.data_append, Array.toList_append, encAll_cons, encL_def, List.append_assoc]
  have := h rs ByteArray.empty
  rw [runesBytes, this]
  rfl
end Go.Proofs.Ythnckedfkmfglaa
