/- Plain Lean: a table of leases as a state, what each call makes of it; a block of whole numbers in memory. No program in sight. -/
import Derived.WalkKit
import Derived.OneCell
import Derived.Deep.Draws
namespace Go.Proofs.Ytjebpccoddcnjaa
open Go.RowKit
set_option linter.unusedVariables false
set_option linter.unusedSimpArgs false

/-! ### A block of n whole numbers -/
def upd (f : Nat → Int) (k : Nat) (v : Int) : Nat → Int := fun j => if j = k then v else f j
theorem upd_same (f : Nat → Int) (k : Nat) (v : Int) : upd f k v k = v := if_pos rfl
theorem upd_other (f : Nat → Int) (k j : Nat) (v : Int) (h : j ≠ k) : upd f k v j = f j := if_neg h

def cellsOf (n : Nat) (f : Nat → Int) : Array Value := (Array.range n).map fun k => .int .i64 (f k)
theorem cellsOf_get (n : Nat) (f : Nat → Int) (k : Nat) (h : k < n) : (cellsOf n f)[k]? = some (.int .i64 (f k)) := by
  simp [cellsOf, h]
theorem cellsOf_set (n : Nat) (f : Nat → Int) (k : Nat) (v : Int) : (cellsOf n f).setIfInBounds k (.int .i64 v) = cellsOf n (upd f k v) := by
  apply Array.ext
  · simp [cellsOf]
  · intro i h1 h2
    simp [cellsOf] at h1
    rw [Array.getElem_setIfInBounds (by simpa [cellsOf] using h1)]
    by_cases h : k = i
    · subst h; simp [cellsOf, upd]
    · simp [cellsOf, upd, h, Ne.symm h]
theorem cellsOf_congr (n : Nat) (f g : Nat → Int) (h : ∀ k, k < n → f k = g k) : cellsOf n f = cellsOf n g := by
  apply Array.ext
  · simp [cellsOf]
  · intro i h1 h2
    simp [cellsOf] at h1
    simp [cellsOf, h i h1]

def Blk (w : World) (g t n : Nat) (f : Nat → Int) : Prop := w.heap[g]? = some (.cells (cellsOf n f) t (0, 0))
theorem blk_cell {w : World} {g t n : Nat} {f : Nat → Int} (h : Blk w g t n f) (k : Nat) (hk : k < n) : w.cell? ⟨g, k, none⟩ = some (.int .i64 (f k)) := by
  unfold Blk at h
  simp [World.cell?, h, cellsOf_get n f k hk]
theorem blk_free {w : World} {g t n : Nat} {f : Nat → Int} (h : Blk w g t n f) (k : Nat) : w.frozen? ⟨g, k, none⟩ = false := by
  unfold Blk at h
  simp [World.frozen?, h]
theorem blk_lt {w : World} {g t n : Nat} {f : Nat → Int} (h : Blk w g t n f) : g < w.heap.size := lt_of_block h
theorem blk_set {w : World} {g t n : Nat} {f : Nat → Int} (h : Blk w g t n f) (k : Nat) (v : Int) : Blk (w.setCell ⟨g, k, none⟩ (.int .i64 v)) g t n (upd f k v) := by
  have hlt := lt_of_block h
  have h' : w.heap[g] = .cells (cellsOf n f) t (0, 0) := by simpa [Blk, Array.getElem?_eq_getElem hlt] using h
  show (w.heap.modify g _)[g]? = _
  rw [Array.getElem?_eq_getElem (by simpa using hlt), Array.getElem_modify_self, h', ← cellsOf_set]
  rfl
theorem blk_congr {w : World} {g t n : Nat} {f f' : Nat → Int} (h : Blk w g t n f) (hf : ∀ k, k < n → f k = f' k) : Blk w g t n f' := by
  unfold Blk at h ⊢
  rw [← cellsOf_congr n f f' hf]; exact h
theorem blk_keep {w w1 : World} {g t n : Nat} {f : Nat → Int} (h : Blk w g t n f) (hk : w1.heap[g]? = w.heap[g]?) : Blk w1 g t n f := hk.trans h
theorem blk_drewN {w : World} {g t n : Nat} {f : Nat → Int} (h : Blk w g t n f) (m : Nat) : Blk (w.drewN m) g t n f := h

/-! ### The state of a table -/
structure LS where
  n : Int
  term : Int
  life : Nat → Int
  epoch : Nat → Int
  till : Nat → Int

def LS.init (n term : Int) : LS := ⟨n, term, fun _ => 0, fun _ => 0, fun _ => 0⟩
/-- How lease.Table lies in memory; how the reference's does. -/
def LS.encA (s : LS) : Nat → Int := fun k => if k = 0 then s.n else if k = 1 then s.term else if (k - 2) % 3 = 0 then s.life ((k - 2) / 3) else if (k - 2) % 3 = 1 then s.epoch ((k - 2) / 3) else s.till ((k - 2) / 3)
def LS.encB (s : LS) : Nat → Int := fun k => if k = 18 then s.n else if k = 19 then s.term else if k % 3 = 0 then s.epoch (k / 3) else if k % 3 = 1 then s.life (k / 3) else s.till (k / 3)

def LS.isW (s : LS) (w : Int) : Bool := decide (1 ≤ w) && decide (w ≤ s.n)
def timeB (now : Int) : Bool := decide (0 ≤ now) && decide (now ≤ 1099511627776)
def LS.ext (s : LS) (w : Int) (now : Int) : LS := { s with till := upd s.till w.toNat (max (s.till w.toNat) (now + s.term)) }
def LS.born (s : LS) (w : Int) (life : Int) : LS := { s with life := upd s.life w.toNat life, epoch := upd s.epoch w.toNat (s.epoch w.toNat + 1) }
def LS.badHello (s : LS) (w life now : Int) : Bool := !s.isW w || decide (life < 1) || decide (2147483647 < life) || !timeB now
/-- The state behind a Hello; its epoch; its error. -/
def LS.hello (s : LS) (w life now : Int) : LS × Int × Int :=
  if s.badHello w life now then (s, 0, 2)
  else if life < s.life w.toNat then (s, 0, 4)
  else if s.life w.toNat < life then ((s.born w life).ext w now, s.epoch w.toNat + 1, 0)
  else (s.ext w now, s.epoch w.toNat, 0)
def LS.okSeen (s : LS) (w epoch now : Int) : Bool := s.isW w && !(s.epoch w.toNat == 0) && (s.epoch w.toNat == epoch) && timeB now
def LS.seen (s : LS) (w epoch now : Int) : LS × Bool := if s.okSeen w epoch now then (s.ext w now, true) else (s, false)
def LS.live (s : LS) (w now : Int) : Bool := s.isW w && decide (0 < s.epoch w.toNat) && decide (now ≤ s.till w.toNat)
def LS.epochOf (s : LS) (w : Int) : Int := if s.isW w then s.epoch w.toNat else 0
def LS.lifeOf (s : LS) (w : Int) : Int := if s.isW w then s.life w.toNat else 0

structure WF (s : LS) : Prop where
  n0 : 1 ≤ s.n
  n1 : s.n ≤ 5
  t0 : 1 ≤ s.term
  t1 : s.term ≤ 1000
  e0 : ∀ k, 0 ≤ s.epoch k
  e1 : ∀ k, s.epoch k ≤ s.life k
  l1 : ∀ k, s.life k ≤ 2147483647
  u0 : ∀ k, 0 ≤ s.till k
  u1 : ∀ k, s.till k ≤ 1099511628776

theorem wf_init (n term : Int) (h0 : 1 ≤ n) (h1 : n ≤ 5) (h2 : 1 ≤ term) (h3 : term ≤ 1000) : WF (LS.init n term) :=
  ⟨h0, h1, h2, h3, fun _ => Int.le_refl _, fun _ => Int.le_refl _, fun _ => by show (0 : Int) ≤ _; omega, fun _ => Int.le_refl _, fun _ => by show (0 : Int) ≤ _; omega⟩
theorem time_iff {now : Int} (h : timeB now = true) : 0 ≤ now ∧ now ≤ 1099511627776 := by
  unfold timeB at h
  simpa using h
theorem wf_ext {s : LS} (h : WF s) (w now : Int) (ht : timeB now = true) : WF (s.ext w now) := by
  have := time_iff ht
  have t0 := h.t0
  have t1 := h.t1
  refine ⟨h.n0, h.n1, h.t0, h.t1, h.e0, h.e1, h.l1, fun k => ?_, fun k => ?_⟩
  · have a := h.u0 k
    have b := h.u0 w.toNat
    show 0 ≤ upd s.till w.toNat (max (s.till w.toNat) (now + s.term)) k
    unfold upd; split <;> omega
  · have a := h.u1 k
    have b := h.u1 w.toNat
    show upd s.till w.toNat (max (s.till w.toNat) (now + s.term)) k ≤ _
    unfold upd; split <;> omega
theorem wf_born {s : LS} (h : WF s) (w life : Int) (h1 : s.life w.toNat < life) (h2 : life ≤ 2147483647) : WF (s.born w life) := by
  refine ⟨h.n0, h.n1, h.t0, h.t1, fun k => ?_, fun k => ?_, fun k => ?_, h.u0, h.u1⟩
  · have a := h.e0 k
    have b := h.e0 w.toNat
    show 0 ≤ upd s.epoch w.toNat (s.epoch w.toNat + 1) k
    unfold upd; split <;> omega
  · have a := h.e1 k
    have b := h.e1 w.toNat
    show upd s.epoch w.toNat (s.epoch w.toNat + 1) k ≤ upd s.life w.toNat life k
    unfold upd; split <;> omega
  · have a := h.l1 k
    show upd s.life w.toNat life k ≤ _
    unfold upd; split <;> omega
theorem hello_ok {s : LS} {w life now : Int} (h : s.badHello w life now = false) : (1 ≤ w ∧ w ≤ s.n) ∧ 1 ≤ life ∧ life ≤ 2147483647 ∧ timeB now = true := by
  unfold LS.badHello LS.isW at h
  simp at h
  obtain ⟨⟨⟨h1, h2⟩, h3⟩, h4⟩ := h
  exact ⟨h1, h2, h3, h4⟩
theorem wf_hello {s : LS} (h : WF s) (w life now : Int) : WF (s.hello w life now).1 := by
  unfold LS.hello
  cases hb : s.badHello w life now with
  | true => exact h
  | false =>
    obtain ⟨_, hl0, hl1, ht⟩ := hello_ok hb
    simp only [Bool.false_eq_true, if_false]
    by_cases c1 : life < s.life w.toNat
    · rw [if_pos c1]; exact h
    · rw [if_neg c1]
      by_cases c2 : s.life w.toNat < life
      · rw [if_pos c2]; exact wf_ext (wf_born h w life c2 hl1) w now ht
      · rw [if_neg c2]; exact wf_ext h w now ht
theorem seen_ok {s : LS} {w epoch now : Int} (h : s.okSeen w epoch now = true) : (1 ≤ w ∧ w ≤ s.n) ∧ s.epoch w.toNat ≠ 0 ∧ s.epoch w.toNat = epoch ∧ timeB now = true := by
  unfold LS.okSeen LS.isW at h
  simp at h
  obtain ⟨⟨⟨h1, h2⟩, h3⟩, h4⟩ := h
  exact ⟨h1, h2, h3, h4⟩
theorem wf_seen {s : LS} (h : WF s) (w epoch now : Int) : WF (s.seen w epoch now).1 := by
  unfold LS.seen
  cases hb : s.okSeen w epoch now with
  | false => exact h
  | true => exact wf_ext h w now (seen_ok hb).2.2.2

/-! ### The encodings and their stores -/
theorem encA_life (s : LS) (k : Nat) : s.encA (2 + k * 3) = s.life k := by
  unfold LS.encA
  rw [if_neg (by omega), if_neg (by omega), if_pos (by omega), show (2 + k * 3 - 2) / 3 = k from by omega]
theorem encA_epoch (s : LS) (k : Nat) : s.encA (2 + k * 3 + 1) = s.epoch k := by
  unfold LS.encA
  rw [if_neg (by omega), if_neg (by omega), if_neg (by omega), if_pos (by omega), show (2 + k * 3 + 1 - 2) / 3 = k from by omega]
theorem encA_till (s : LS) (k : Nat) : s.encA (2 + k * 3 + 2) = s.till k := by
  unfold LS.encA
  rw [if_neg (by omega), if_neg (by omega), if_neg (by omega), if_neg (by omega), show (2 + k * 3 + 2 - 2) / 3 = k from by omega]
theorem encB_epoch (s : LS) (k : Nat) (h : k < 6) : s.encB (k * 3) = s.epoch k := by
  unfold LS.encB
  rw [if_neg (by omega), if_neg (by omega), if_pos (by omega), show k * 3 / 3 = k from by omega]
theorem encB_life (s : LS) (k : Nat) (h : k < 6) : s.encB (k * 3 + 1) = s.life k := by
  unfold LS.encB
  rw [if_neg (by omega), if_neg (by omega), if_neg (by omega), if_pos (by omega), show (k * 3 + 1) / 3 = k from by omega]
theorem encB_till (s : LS) (k : Nat) (h : k < 6) : s.encB (k * 3 + 2) = s.till k := by
  unfold LS.encB
  rw [if_neg (by omega), if_neg (by omega), if_neg (by omega), if_neg (by omega), show (k * 3 + 2) / 3 = k from by omega]

theorem setA_life (s : LS) (k : Nat) (v : Int) (j : Nat) : upd s.encA (2 + k * 3) v j = LS.encA { s with life := upd s.life k v } j := by
  unfold upd LS.encA
  simp only [upd]
  by_cases h : j = 2 + k * 3
  · subst h
    rw [if_pos rfl, if_neg (by omega), if_neg (by omega), if_pos (by omega), if_pos (by omega)]
  · rw [if_neg h]
    by_cases h0 : j = 0
    · rw [if_pos h0, if_pos h0]
    · by_cases h1 : j = 1
      · rw [if_neg h0, if_neg h0, if_pos h1, if_pos h1]
      · rw [if_neg h0, if_neg h0, if_neg h1, if_neg h1]
        by_cases h2 : (j - 2) % 3 = 0
        · rw [if_pos h2, if_pos h2, if_neg (by omega)]
        · rw [if_neg h2, if_neg h2]
theorem setA_epoch (s : LS) (k : Nat) (v : Int) (j : Nat) : upd s.encA (2 + k * 3 + 1) v j = LS.encA { s with epoch := upd s.epoch k v } j := by
  unfold upd LS.encA
  simp only [upd]
  by_cases h : j = 2 + k * 3 + 1
  · subst h
    rw [if_pos rfl, if_neg (by omega), if_neg (by omega), if_neg (by omega), if_pos (by omega), if_pos (by omega)]
  · rw [if_neg h]
    by_cases h0 : j = 0
    · rw [if_pos h0, if_pos h0]
    · by_cases h1 : j = 1
      · rw [if_neg h0, if_neg h0, if_pos h1, if_pos h1]
      · rw [if_neg h0, if_neg h0, if_neg h1, if_neg h1]
        by_cases h2 : (j - 2) % 3 = 0
        · rw [if_pos h2, if_pos h2]
        · rw [if_neg h2, if_neg h2]
          by_cases h3 : (j - 2) % 3 = 1
          · rw [if_pos h3, if_pos h3, if_neg (by omega)]
          · rw [if_neg h3, if_neg h3]
theorem setA_till (s : LS) (k : Nat) (v : Int) (j : Nat) : upd s.encA (2 + k * 3 + 2) v j = LS.encA { s with till := upd s.till k v } j := by
  unfold upd LS.encA
  simp only [upd]
  by_cases h : j = 2 + k * 3 + 2
  · subst h
    rw [if_pos rfl, if_neg (by omega), if_neg (by omega), if_neg (by omega), if_neg (by omega), if_pos (by omega)]
  · rw [if_neg h]
    by_cases h0 : j = 0
    · rw [if_pos h0, if_pos h0]
    · by_cases h1 : j = 1
      · rw [if_neg h0, if_neg h0, if_pos h1, if_pos h1]
      · rw [if_neg h0, if_neg h0, if_neg h1, if_neg h1]
        by_cases h2 : (j - 2) % 3 = 0
        · rw [if_pos h2, if_pos h2]
        · rw [if_neg h2, if_neg h2]
          by_cases h3 : (j - 2) % 3 = 1
          · rw [if_pos h3, if_pos h3]
          · rw [if_neg h3, if_neg h3, if_neg (by omega)]
theorem setB_epoch (s : LS) (k : Nat) (hk : k < 6) (v : Int) (j : Nat) (hj : j < 20) : upd s.encB (k * 3) v j = LS.encB { s with epoch := upd s.epoch k v } j := by
  unfold upd LS.encB
  simp only [upd]
  by_cases h : j = k * 3
  · subst h
    rw [if_pos rfl, if_neg (by omega), if_neg (by omega), if_pos (by omega), if_pos (by omega)]
  · rw [if_neg h]
    by_cases h0 : j = 18
    · rw [if_pos h0, if_pos h0]
    · by_cases h1 : j = 19
      · rw [if_neg h0, if_neg h0, if_pos h1, if_pos h1]
      · rw [if_neg h0, if_neg h0, if_neg h1, if_neg h1]
        by_cases h2 : j % 3 = 0
        · rw [if_pos h2, if_pos h2, if_neg (by omega)]
        · rw [if_neg h2, if_neg h2]
theorem setB_life (s : LS) (k : Nat) (hk : k < 6) (v : Int) (j : Nat) (hj : j < 20) : upd s.encB (k * 3 + 1) v j = LS.encB { s with life := upd s.life k v } j := by
  unfold upd LS.encB
  simp only [upd]
  by_cases h : j = k * 3 + 1
  · subst h
    rw [if_pos rfl, if_neg (by omega), if_neg (by omega), if_neg (by omega), if_pos (by omega), if_pos (by omega)]
  · rw [if_neg h]
    by_cases h0 : j = 18
    · rw [if_pos h0, if_pos h0]
    · by_cases h1 : j = 19
      · rw [if_neg h0, if_neg h0, if_pos h1, if_pos h1]
      · rw [if_neg h0, if_neg h0, if_neg h1, if_neg h1]
        by_cases h2 : j % 3 = 0
        · rw [if_pos h2, if_pos h2]
        · rw [if_neg h2, if_neg h2]
          by_cases h3 : j % 3 = 1
          · rw [if_pos h3, if_pos h3, if_neg (by omega)]
          · rw [if_neg h3, if_neg h3]
theorem setB_till (s : LS) (k : Nat) (hk : k < 6) (v : Int) (j : Nat) (hj : j < 20) : upd s.encB (k * 3 + 2) v j = LS.encB { s with till := upd s.till k v } j := by
  unfold upd LS.encB
  simp only [upd]
  by_cases h : j = k * 3 + 2
  · subst h
    rw [if_pos rfl, if_neg (by omega), if_neg (by omega), if_neg (by omega), if_neg (by omega), if_pos (by omega)]
  · rw [if_neg h]
    by_cases h0 : j = 18
    · rw [if_pos h0, if_pos h0]
    · by_cases h1 : j = 19
      · rw [if_neg h0, if_neg h0, if_pos h1, if_pos h1]
      · rw [if_neg h0, if_neg h0, if_neg h1, if_neg h1]
        by_cases h2 : j % 3 = 0
        · rw [if_pos h2, if_pos h2]
        · rw [if_neg h2, if_neg h2]
          by_cases h3 : j % 3 = 1
          · rw [if_pos h3, if_pos h3]
          · rw [if_neg h3, if_neg h3, if_neg (by omega)]

/-- A table of the one kind (block g); of the other. -/
def IsA (w : World) (g : Nat) (s : LS) : Prop := Blk w g 60 20 s.encA
def IsB (w : World) (g : Nat) (s : LS) : Prop := Blk w g 50 20 s.encB
end Go.Proofs.Ytjebpccoddcnjaa
