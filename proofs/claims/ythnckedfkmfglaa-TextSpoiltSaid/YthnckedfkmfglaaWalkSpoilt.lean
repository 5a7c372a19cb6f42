/- The walk of the law TextSpoilt: it returns true. -/
import Derived.Test.YthnckedfkmfglaaAwake
import Derived.Test.YthnckedfkmfglaaLaw
import Derived.Test.YthnckedfkmfglaaLow
namespace Go.Proofs.Ythnckedfkmfglaa
set_option linter.unusedVariables false
set_option linter.unusedSimpArgs false
open Go.RowKit Go.Proofs.YthnckedfkmfglaaW.PrintWords Go.Proofs.YthnckedfkmfglaaW.PrintLast
theorem spoilt_byte (b : Int) (h0 : 0 ≤ b) (h1 : b ≤ 255) : 248 ≤ (UInt8.ofNat (bits BinOp.or IntKind.u8 248 (b % 8)).toNat).toNat := by
  have h : ∀ m : Fin 8, 248 ≤ (UInt8.ofNat (bits BinOp.or IntKind.u8 248 ((m.val : Nat) : Int)).toNat).toNat := by decide +kernel
  have h2 := h ⟨(b % 8).toNat, by omega⟩
  rw [show (((⟨(b % 8).toNat, by omega⟩ : Fin 8).val : Nat) : Int) = b % 8 from by show (((b % 8).toNat : Nat) : Int) = b % 8; omega] at h2
  exact h2

theorem wf_of_len {s : ByteArray} {L : Int} (h : lenOf s = L) (h2 : ¬ L < 0) : ∃ rs, runesOf s = some rs := by
  unfold lenOf at h
  cases hr : runesOf s with
  | none => rw [hr] at h; simp at h; omega
  | some rs => exact ⟨rs, rfl⟩

theorem len_none {s : ByteArray} (h : runesOf s = none) : lenOf s = -1 := by unfold lenOf; rw [h]
theorem len_none_calls {s : ByteArray} (h : runesOf s = none) (hs : s.size ≤ 140737488351232) (w : World) : Calls Try.prog 16 #[.string s] w fun e w' => e = .returned (.int .i64 (-1)) ∧ Below w.heap.size w w' :=
  len_none h ▸ len_calls s w hs
theorem word_none_calls {s : ByteArray} (h : runesOf s = none) (hs : s.size ≤ 140737488351232) (w : World) : Calls Try.prog 18 #[.string s] w fun e w' => e = .returned (.bool false) ∧ Below w.heap.size w w' := by
  have e : wordB s = false := by unfold wordB; rw [len_none h]; rfl
  exact e ▸ word_calls s w hs
theorem asked_none_calls {s : ByteArray} (h : runesOf s = none) (hs : s.size ≤ 140737488351232) (w : World) : Calls Try.prog 20 #[.string s] w fun e w' => e = .returned (.bool false) ∧ Below w.heap.size w w' := by
  have e : askedB s = false := by unfold askedB; rw [len_none h]; rfl
  exact e ▸ asked_calls s w hs

theorem conv_one (W : World) (x : Int) :
    (convert 35 9 (.slice (some ⟨W.heap.size, 0, none⟩) 1 1)).run Try.prog (W.alloc (.cells #[.int .u8 x] 5)) = .ok (.string (strOfNums [x])) (W.alloc (.cells #[.int .u8 x] 5)) := by
  have h := own_lit_of (enc := Value.int .u8) W 0 5 [x] (Nat.zero_le _) (by simp)
  have hR : (Kd.int .u8).R 5 (W.alloc (.cells (encs (Value.int .u8) [x]).toArray 5)) 0 (fun _ => True) (.slice (some ⟨W.heap.size, 0, none⟩) 1 1) [x] := Kd.R_of_own h (fun _ _ => trivial)
  exact Kd.C_string Try.underlying35 Try.underlying5 Try.underlying9 (Kd.R_reads' hR).2.2

set_option maxRecDepth 100000 in
set_option maxHeartbeats 4000000 in
theorem spoilt_walk (s : ByteArray) (at_ : Int) (b : Int) (hs : s.size ≤ 140737488351232) (hat : (Lit.int .i64 at_).wf = true) (hbb : (Lit.int .u8 b).wf = true) (w : World) :
    Calls Try.prog 6 #[.string s, .int .i64 at_, .int .u8 b] w fun e w' => e = .returned (.bool true) ∧ Below w.heap.size w w' := by
  obtain ⟨h0, h1⟩ : 0 ≤ b ∧ b ≤ 255 := by simpa [Lit.wf, IntKind.min, IntKind.max, IntKind.signed, IntKind.bits] using hbb
  clear hat hbb
  have hl := lenOf_bd s
  by_cases c1 : (100 : Int) < s.size
  · have c1b : decide ((100 : Int) < s.size) = true := decide_eq_true c1
    go_enter Try.func6, Try.ntmps6
    go_wp2_with (go_at_call 10; refine (awake_calls _).mono ?_; rintro e w' ⟨rfl, hb1⟩; have HB := Lib.hid hb1; clear hb1)
    go_ret
    exact ⟨rfl, HB.out⟩
  · have c1b : decide ((100 : Int) < s.size) = false := decide_eq_false c1
    have LC := Lib.hid (len_calls s)
    generalize hL : lenOf s = L at *
    have HL := Lib.hid hL
    clear hL
    by_cases c2 : L < 0
    · have c2b : decide (L < 0) = true := decide_eq_true c2
      go_enter Try.func6, Try.ntmps6
      go_wp2_with (first | (go_at_call 16; refine (LC.out _ hs).mono ?_; rintro e w' ⟨rfl, hb0⟩; have HB0 := Lib.hid hb0; have hs0 := hb0.size; clear hb0) | (go_at_call 10; refine (awake_calls _).mono ?_; rintro e w' ⟨rfl, hb1⟩; have HB := Lib.hid hb1; clear hb1))
      go_ret
      exact ⟨rfl, HB0.out.trans (HB.out.mono hs0)⟩
    · have c2b : decide (L < 0) = false := decide_eq_false c2
      obtain ⟨k, hk, hk0, hk1⟩ := low_some at_ (s.size + 1) (by omega) (by omega)
      have HK := Lib.hid hk
      clear hk
      go_enter Try.func6, Try.ntmps6
      go_wp2_with (first | (go_at_call 16; refine (LC.out _ hs).mono ?_; rintro e w' ⟨rfl, hb0⟩; have HB0 := Lib.hid hb0; have hs0 := hb0.size; clear hb0) | (go_at_call 25; refine (PTextSpoilt.inkhornlaw0_Low.calls _ _ _ _ HK.out).mono ?_; rintro e w' ⟨rfl, ⟨n1, rfl⟩⟩))
      have k1b : decide (k ≤ (s.size : Int)) = true := decide_eq_true (by omega)
      have hk2 : k ≤ (s.size : Int) := by omega
      have hcv : ∀ (n : Nat) (x : Int), (convert 35 9 (.slice (some ⟨w'.heap.size, 0, none⟩) 1 1)).run Try.prog ((w'.drewN n).alloc (.cells #[.int .u8 x] 5)) = .ok (.string (strOfNums [x])) ((w'.drewN n).alloc (.cells #[.int .u8 x] 5)) := fun n x => conv_one (w'.drewN n) x
      have hss : ∀ x : Int, (strOfNums [x]).size = 1 := fun x => by rw [strOfNums_size]; rfl
      go_region
      have hX : runesOf (s.extract 0 k.toNat ++ strOfNums [bits BinOp.or IntKind.u8 248 (b % 8)] ++ s.extract k.toNat s.size) = none := by
        refine spoilt _ (UInt8.ofNat (bits BinOp.or IntKind.u8 248 (b % 8)).toNat) ?_ (spoilt_byte b h0 h1)
        rw [ByteArray.data_append, Array.toList_append, ByteArray.data_append, Array.toList_append, strOfNums_data]
        simp
      have hXs : (s.extract 0 k.toNat ++ strOfNums [bits BinOp.or IntKind.u8 248 (b % 8)] ++ s.extract k.toNat s.size).size ≤ 140737488351232 := by
        simp only [ByteArray.size_append, hss, ByteArray.size_extract]
        omega
      generalize s.extract 0 k.toNat ++ strOfNums [bits BinOp.or IntKind.u8 248 (b % 8)] ++ s.extract k.toNat s.size = X at *
      have HX := Lib.hid hX
      clear hX hcv hss
      go_wp2_with fail
      refine (len_none_calls HX.out hXs _).mono ?_
      rintro e w2 ⟨rfl, hb2⟩
      have HB2 := Lib.hid hb2
      have hs2 := hb2.size
      clear hb2
      simp only [World.size_alloc] at hs2
      go_wp2_with fail
      refine (word_none_calls HX.out hXs _).mono ?_
      rintro e w3 ⟨rfl, hb3⟩
      have HB3 := Lib.hid hb3
      have hs3 := hb3.size
      clear hb3
      go_wp2_with fail
      refine (asked_none_calls HX.out hXs _).mono ?_
      rintro e w4 ⟨rfl, hb4⟩
      have HB4 := Lib.hid hb4
      have hs4 := hb4.size
      clear hb4
      have HB5 : Hid (Below w.heap.size w w4) := by
        have e2 : w'.heap.size ≤ w2.heap.size := by simp at hs2; omega
        exact ((((pw_below_drewN HB0.out _).alloc (by simp; omega) _).trans (HB2.out.mono (by simp; omega))).trans (HB3.out.mono (by omega))).trans (HB4.out.mono (by omega))
      have hs5 : w.heap.size ≤ w4.heap.size := HB5.out.size
      clear HB2 HB3 HB4 hs2 hs3 hs4
      have hx := bt_at s k
      have p0 := eq_true hk0
      by_cases d1 : k < (s.size : Int)
      · have d1b : decide (k < (s.size : Int)) = true := decide_eq_true d1
        have p1 := eq_true d1
        have hbt := bt_get s k.toNat (by omega)
        rw [show ((k.toNat : Nat) : Int) = k from by omega] at hbt
        have HBT := Lib.hid hbt
        clear hbt
        by_cases d2 : 128 ≤ bt s k
        · have d2b : decide (128 ≤ bt s k) = true := decide_eq_true d2
          by_cases d3 : bt s k ≤ 191
          · have d3b : decide (bt s k ≤ 191) = true := decide_eq_true d3
            obtain ⟨rs, hrs⟩ := wf_of_len HL.out (by omega)
            have hcut := cut_spoilt s rs hrs k.toNat (by omega) (by have := HBT.out; omega) (by have := HBT.out; omega)
            have HC1 := Lib.hid hcut.1
            have HC2 := Lib.hid hcut.2
            have z1 : (s.extract 0 k.toNat).size ≤ 140737488351232 := by rw [ByteArray.size_extract]; omega
            have z2 : (s.extract k.toNat s.size).size ≤ 140737488351232 := by rw [ByteArray.size_extract]; omega
            clear hcut hrs d2 d3
            go_wp2_with fail
            refine (len_none_calls HC1.out z1 _).mono ?_
            rintro e w6 ⟨rfl, hb6⟩
            have HB6 := Lib.hid hb6
            have hs6 := hb6.size
            clear hb6
            go_wp2_with fail
            refine (len_none_calls HC2.out z2 _).mono ?_
            rintro e w7 ⟨rfl, hb7⟩
            have HB7 := Lib.hid hb7
            have hs7 := hb7.size
            clear hb7
            go_wp2_with fail
            refine (awake_calls _).mono ?_
            rintro e w8 ⟨rfl, hb8⟩
            have HB8 := Lib.hid hb8
            clear hb8
            go_wp2_with fail
            go_ret
            exact ⟨rfl, ((HB5.out.trans (HB6.out.mono hs5)).trans (HB7.out.mono (by omega))).trans (HB8.out.mono (by omega))⟩
          · have d3b : decide (bt s k ≤ 191) = false := decide_eq_false d3
            clear d2 d3
            go_wp2_with (go_at_call 10; refine (awake_calls _).mono ?_; rintro e w8 ⟨rfl, hb8⟩; have HB8 := Lib.hid hb8; clear hb8)
            go_ret
            exact ⟨rfl, HB5.out.trans (HB8.out.mono hs5)⟩
        · have d2b : decide (128 ≤ bt s k) = false := decide_eq_false d2
          clear d2
          go_wp2_with (go_at_call 10; refine (awake_calls _).mono ?_; rintro e w8 ⟨rfl, hb8⟩; have HB8 := Lib.hid hb8; clear hb8)
          go_ret
          exact ⟨rfl, HB5.out.trans (HB8.out.mono hs5)⟩
      · have d1b : decide (k < (s.size : Int)) = false := decide_eq_false d1
        go_wp2_with (go_at_call 10; refine (awake_calls _).mono ?_; rintro e w8 ⟨rfl, hb8⟩; have HB8 := Lib.hid hb8; clear hb8)
        go_ret
        exact ⟨rfl, HB5.out.trans (HB8.out.mono hs5)⟩
end Go.Proofs.Ythnckedfkmfglaa
