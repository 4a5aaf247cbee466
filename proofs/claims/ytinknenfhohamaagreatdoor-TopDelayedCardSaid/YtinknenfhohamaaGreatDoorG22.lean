/- Plain facts on the encoding of integers and strings as bytes, and on the checksum: no program in sight. The encoding of a performance, as plain mathematics. No program in sight. -/
import Init
import Derived.Test.YtinknenfhohamaaGreatDoorG13
namespace Go.Proofs.YtinknenfhohamaaGreatDoor

/-! ### Integers -/
/-- The number that is encoded for n. -/
def zig (n : Int) : Nat := if n < 0 then (-2 * n - 1).toNat else (2 * n).toNat
/-- Back. -/
def unzig (z : Nat) : Int := if z % 2 = 1 then -((z / 2 : Nat) : Int) - 1 else ((z / 2 : Nat) : Int)

theorem unzig_zig (n : Int) : unzig (zig n) = n := by
  unfold unzig zig
  by_cases h : n < 0
  · rw [if_pos h, if_pos (by omega)]; omega
  · rw [if_neg h, if_neg (by omega)]; omega
theorem zig_unzig (z : Nat) : zig (unzig z) = z := by
  unfold unzig zig
  by_cases h : z % 2 = 1
  · rw [if_pos h, if_pos (by omega)]; omega
  · rw [if_neg h, if_neg (by omega)]; omega

/-- The greatest integer that has an encoding. -/
def big : Int := 4611686018427387903
theorem zig_lt {n : Int} (h0 : -4611686018427387903 ≤ n) (h1 : n ≤ 4611686018427387903) : zig n < 9223372036854775807 := by
  unfold zig; split <;> omega
theorem unzig_hi {z : Nat} (h : z < 9223372036854775808) : -4611686018427387904 ≤ unzig z ∧ unzig z ≤ 4611686018427387903 := by
  unfold unzig; split <;> omega

/-- The groups of seven bits of z, the least one first, at most f of them. -/
def leb : Nat → Nat → List UInt8
  | 0, _ => []
  | f + 1, z => if z < 128 then [UInt8.ofNat z] else UInt8.ofNat (z % 128 + 128) :: leb f (z / 128)

theorem leb_lo (f z : Nat) (h : z < 128) : leb (f + 1) z = [UInt8.ofNat z] := by rw [leb, if_pos h]
theorem leb_hi (f z : Nat) (h : 128 ≤ z) : leb (f + 1) z = UInt8.ofNat (z % 128 + 128) :: leb f (z / 128) := by rw [leb, if_neg (by omega)]

theorem leb_fuel (f : Nat) : ∀ (g z : Nat), z < 128 ^ f → f ≤ g → 1 ≤ f → leb g z = leb f z := by
  induction f with
  | zero => intro g z _ _ h; omega
  | succ f ih =>
    intro g z hz hg _
    obtain ⟨g, rfl⟩ : ∃ g', g = g' + 1 := ⟨g - 1, by omega⟩
    by_cases h : z < 128
    · rw [leb_lo _ _ h, leb_lo _ _ h]
    · rw [leb_hi _ _ (by omega), leb_hi _ _ (by omega)]
      have hf : 1 ≤ f := by
        rcases Nat.eq_zero_or_pos f with rfl | hf
        · simp at hz; omega
        · exact hf
      rw [ih g (z / 128) (by rw [Nat.pow_succ] at hz; omega) (by omega) hf]

theorem leb_len (f : Nat) : ∀ z : Nat, (leb f z).length ≤ f := by
  induction f with
  | zero => intro z; simp [leb]
  | succ f ih => intro z; rw [leb]; split <;> simp; exact ih _
theorem leb_pos (f z : Nat) : 1 ≤ (leb (f + 1) z).length := by rw [leb]; split <;> simp

/-- The encoding of an integer. -/
def enc (n : Int) : List UInt8 := leb 9 (zig n)
theorem enc_len (n : Int) : (enc n).length ≤ 9 := leb_len _ _
theorem enc_pos (n : Int) : 1 ≤ (enc n).length := leb_pos _ _

/-- The loop that reads: i groups were read, which give z; f are left. -/
def scan (s : List UInt8) (k : Nat) : Nat → Nat → Nat → Option (Int × Nat)
  | 0, _, _ => none
  | f + 1, i, z =>
    match s[k + i]? with
    | none => none
    | some b =>
      if 128 ≤ b.toNat then scan s k f (i + 1) (z + b.toNat % 128 * 128 ^ i)
      else if (b.toNat = 0 ∧ 0 < i) ∨ unzig (z + b.toNat % 128 * 128 ^ i) < -4611686018427387903 then none
      else some (unzig (z + b.toNat % 128 * 128 ^ i), k + i + 1)
/-- What the bytes from k on encode, and the place behind it. -/
def readInt (s : List UInt8) (k : Nat) : Option (Int × Nat) := scan s k 9 0 0

theorem scan_out {s : List UInt8} {k i z : Nat} (f : Nat) (h : s.length ≤ k + i) : scan s k (f + 1) i z = none := by
  rw [scan, List.getElem?_eq_none h]
theorem scan_more {s : List UInt8} {k i z : Nat} {b : UInt8} (f : Nat) (h : s[k + i]? = some b) (hb : 128 ≤ b.toNat) : scan s k (f + 1) i z = scan s k f (i + 1) (z + b.toNat % 128 * 128 ^ i) := by
  rw [scan, h]; simp only; rw [if_pos hb]
theorem scan_bad {s : List UInt8} {k i z : Nat} {b : UInt8} (f : Nat) (h : s[k + i]? = some b) (hb : b.toNat < 128) (hx : (b.toNat = 0 ∧ 0 < i) ∨ unzig (z + b.toNat % 128 * 128 ^ i) < -4611686018427387903) : scan s k (f + 1) i z = none := by
  rw [scan, h]; simp only; rw [if_neg (by omega), if_pos hx]
theorem scan_end {s : List UInt8} {k i z : Nat} {b : UInt8} (f : Nat) (h : s[k + i]? = some b) (hb : b.toNat < 128) (hx : ¬ ((b.toNat = 0 ∧ 0 < i) ∨ unzig (z + b.toNat % 128 * 128 ^ i) < -4611686018427387903)) : scan s k (f + 1) i z = some (unzig (z + b.toNat % 128 * 128 ^ i), k + i + 1) := by
  rw [scan, h]; simp only; rw [if_neg (by omega), if_neg hx]

theorem ofNat_toNat8 {x : Nat} (h : x < 256) : (UInt8.ofNat x).toNat = x := by simp; omega

theorem scan_leb (f : Nat) : ∀ (s rest : List UInt8) (k i z y : Nat), y < 128 ^ f → 1 ≤ f → (i = 0 ∨ y ≠ 0) → s.drop (k + i) = leb f y ++ rest →
    scan s k f i z = if unzig (z + y * 128 ^ i) < -4611686018427387903 then none else some (unzig (z + y * 128 ^ i), k + i + (leb f y).length) := by
  induction f with
  | zero => intro s rest k i z y _ h; omega
  | succ f ih =>
    intro s rest k i z y hy _ hi hs
    by_cases h : y < 128
    · rw [leb_lo _ _ h] at hs ⊢
      have hb : s[k + i]? = some (UInt8.ofNat y) := by
        have := congrArg (·[0]?) hs
        simpa using this
      have hv : (UInt8.ofNat y).toNat = y := ofNat_toNat8 (by omega)
      have e : (UInt8.ofNat y).toNat % 128 * 128 ^ i = y * 128 ^ i := by rw [hv, Nat.mod_eq_of_lt h]
      by_cases hx : unzig (z + y * 128 ^ i) < -4611686018427387903
      · rw [if_pos hx, scan_bad f hb (by omega) (.inr (by rw [e]; exact hx))]
      · rw [if_neg hx, scan_end f hb (by omega) (by rw [e, hv]; rintro (⟨a, b⟩ | a); omega; exact hx a), e]; simp
    · rw [leb_hi _ _ (by omega)] at hs ⊢
      have hb : s[k + i]? = some (UInt8.ofNat (y % 128 + 128)) := by
        have := congrArg (·[0]?) hs
        simpa using this
      have hv : (UInt8.ofNat (y % 128 + 128)).toNat = y % 128 + 128 := ofNat_toNat8 (by omega)
      have hs' : s.drop (k + (i + 1)) = leb f (y / 128) ++ rest := by
        have := congrArg (List.drop 1) hs
        rw [List.drop_drop] at this
        rw [← Nat.add_assoc]
        simpa using this
      have hf : 1 ≤ f := by
        rcases Nat.eq_zero_or_pos f with rfl | hf
        · simp at hy; omega
        · exact hf
      have e : z + (UInt8.ofNat (y % 128 + 128)).toNat % 128 * 128 ^ i + y / 128 * 128 ^ (i + 1) = z + y * 128 ^ i := by
        rw [hv, Nat.pow_succ]
        have h1 : (y % 128 + 128) % 128 = y % 128 := by omega
        have h2 : y % 128 + y / 128 * 128 = y := by omega
        rw [h1, Nat.add_assoc, show y / 128 * (128 ^ i * 128) = (y / 128 * 128) * 128 ^ i by rw [Nat.mul_comm (128 ^ i), Nat.mul_assoc], ← Nat.add_mul, h2]
      rw [scan_more f hb (by omega), ih s rest k (i + 1) _ (y / 128) (by rw [Nat.pow_succ] at hy; omega) hf (.inr (by omega)) hs', e]
      simp only [List.length_cons]
      have : k + (i + 1) + (leb f (y / 128)).length = k + i + ((leb f (y / 128)).length + 1) := by omega
      rw [this]

theorem scan_some (f : Nat) : ∀ (s : List UInt8) (k i z : Nat) (n : Int) (next : Nat), scan s k f i z = some (n, next) →
    ∃ (y : Nat) (rest : List UInt8), y < 128 ^ f ∧ (i = 0 ∨ y ≠ 0) ∧ s.drop (k + i) = leb f y ++ rest ∧ n = unzig (z + y * 128 ^ i) ∧ -4611686018427387903 ≤ n ∧ next = k + i + (leb f y).length := by
  induction f with
  | zero => intro s k i z n next h; simp [scan] at h
  | succ f ih =>
    intro s k i z n next h
    rw [scan] at h
    cases hb : s[k + i]? with
    | none => rw [hb] at h; cases h
    | some b =>
      rw [hb] at h
      simp only at h
      have hlt : k + i < s.length := by
        rcases Nat.lt_or_ge (k + i) s.length with h | h
        · exact h
        · rw [List.getElem?_eq_none h] at hb; cases hb
      have hb' : s[k + i] = b := by rw [List.getElem?_eq_getElem hlt] at hb; exact Option.some.inj hb
      have hd : s.drop (k + i) = b :: s.drop (k + (i + 1)) := by rw [List.drop_eq_getElem_cons hlt, hb']; rfl
      have hbl := b.toNat_lt
      by_cases h1 : 128 ≤ b.toNat
      · rw [if_pos h1] at h
        obtain ⟨y, rest, hy, hi, hs, hn, hlo, hnx⟩ := ih s k (i + 1) _ n next h
        have hy0 : y ≠ 0 := by rcases hi with hi | hi; omega; exact hi
        have e0 : (b.toNat % 128 + y * 128) % 128 + 128 = b.toNat := by omega
        have e1 : (b.toNat % 128 + y * 128) / 128 = y := by omega
        have e2 : leb (f + 1) (b.toNat % 128 + y * 128) = b :: leb f y := by
          rw [leb_hi _ _ (by omega), e0, e1]; simp
        refine ⟨b.toNat % 128 + y * 128, rest, by rw [Nat.pow_succ]; omega, .inr (by omega), by rw [hd, hs, e2]; rfl, ?_, hlo, by rw [e2, hnx]; simp; omega⟩
        rw [hn, Nat.pow_succ]
        congr 1
        rw [Nat.add_mul, Nat.add_assoc, Nat.mul_comm (128 ^ i) 128, Nat.mul_assoc]
      · rw [if_neg h1] at h
        by_cases h2 : (b.toNat = 0 ∧ 0 < i) ∨ unzig (z + b.toNat % 128 * 128 ^ i) < -4611686018427387903
        · rw [if_pos h2] at h; cases h
        · rw [if_neg h2] at h
          cases h
          have e2 : leb (f + 1) b.toNat = [b] := by rw [leb_lo _ _ (by omega)]; simp
          have e3 : b.toNat % 128 = b.toNat := by omega
          rw [e3] at h2 ⊢
          refine ⟨b.toNat, s.drop (k + (i + 1)), ?_, by omega, by rw [hd, e2]; rfl, rfl, by omega, by rw [e2]; rfl⟩
          have : 1 ≤ 128 ^ f := Nat.one_le_pow _ _ (by omega)
          rw [Nat.pow_succ]; omega

/-- What stands in a text is read back. -/
theorem readInt_enc {s rest : List UInt8} {k : Nat} {n : Int} (h0 : -4611686018427387903 ≤ n) (h1 : n ≤ 4611686018427387903) (h : s.drop k = enc n ++ rest) : readInt s k = some (n, k + (enc n).length) := by
  have hz := zig_lt h0 h1
  have := scan_leb 9 s rest k 0 0 (zig n) (by omega) (by omega) (.inl rfl) (by simpa [enc] using h)
  rw [readInt, this]
  simp only [Nat.pow_zero, Nat.mul_one, Nat.zero_add, Nat.add_zero, unzig_zig]
  rw [if_neg (by omega)]; rfl
/-- What is read stands there. -/
theorem readInt_some {s : List UInt8} {k : Nat} {n : Int} {next : Nat} (h : readInt s k = some (n, next)) :
    -4611686018427387903 ≤ n ∧ n ≤ 4611686018427387903 ∧ next = k + (enc n).length ∧ ∃ rest, s.drop k = enc n ++ rest := by
  obtain ⟨y, rest, hy, _, hs, hn, hlo, hnx⟩ := scan_some 9 s k 0 0 n next h
  simp only [Nat.pow_zero, Nat.mul_one, Nat.zero_add, Nat.add_zero] at hs hn hnx
  have e : zig n = y := by rw [hn, zig_unzig]
  have := unzig_hi (z := y) (by omega)
  refine ⟨hlo, by omega, by rw [enc, e]; exact hnx, rest, by rw [enc, e]; exact hs⟩
theorem readInt_bounds {s : List UInt8} {k : Nat} {n : Int} {next : Nat} (h : readInt s k = some (n, next)) (hk : k ≤ s.length) : k < next ∧ next ≤ s.length ∧ next ≤ k + 9 := by
  obtain ⟨_, _, hn, rest, hs⟩ := readInt_some h
  have h1 := enc_pos n
  have h2 := enc_len n
  have := congrArg List.length hs
  simp at this
  omega

theorem enc_inj {m n : Int} {r t : List UInt8} (hm0 : -4611686018427387903 ≤ m) (hm1 : m ≤ 4611686018427387903) (hn0 : -4611686018427387903 ≤ n) (hn1 : n ≤ 4611686018427387903) (h : enc m ++ r = enc n ++ t) : m = n := by
  have h1 := readInt_enc (s := enc m ++ r) (rest := r) (k := 0) hm0 hm1 (by simp)
  have h2 := readInt_enc (s := enc m ++ r) (rest := t) (k := 0) hn0 hn1 (by simpa using h)
  rw [h1] at h2
  simp only [Option.some.injEq, Prod.mk.injEq] at h2
  exact h2.1

/-- A proper part of an encoding is none. -/
theorem readInt_part {n : Int} {j : Nat} (h0 : -4611686018427387903 ≤ n) (h1 : n ≤ 4611686018427387903) (hj : j < (enc n).length) : readInt ((enc n).take j) 0 = none := by
  cases hr : readInt ((enc n).take j) 0 with
  | none => rfl
  | some p =>
    obtain ⟨m, next⟩ := p
    obtain ⟨m0, m1, hnx, rest, hs⟩ := readInt_some hr
    have hb := readInt_bounds hr (by simp)
    have hs' : enc n = enc m ++ (rest ++ (enc n).drop j) := by
      have := List.take_append_drop j (enc n)
      rw [List.drop_zero] at hs
      rw [hs] at this
      rw [← List.append_assoc]; exact this.symm
    have e : n = m := enc_inj (r := []) h0 h1 m0 m1 (by simpa using hs')
    subst e
    have := hb.2.1
    simp at this
    omega

/-! ### Strings -/
/-- The encoding of a string. -/
def encS (t : List UInt8) : List UInt8 := enc t.length ++ t
/-- The string that the bytes from k on encode, and the place behind it. -/
def readStr (s : List UInt8) (k : Nat) : Option (List UInt8 × Nat) :=
  match readInt s k with
  | none => none
  | some (n, next) => if n < 0 ∨ 65536 < n ∨ (s.length : Int) - next < n then none else some ((s.drop next).take n.toNat, next + n.toNat)

theorem readStr_enc {s rest t : List UInt8} {k : Nat} (ht : t.length ≤ 65536) (h : s.drop k = encS t ++ rest) : readStr s k = some (t, k + (encS t).length) := by
  unfold encS at h ⊢
  have hi := readInt_enc (n := t.length) (by omega) (by omega) (by rw [h, List.append_assoc])
  have hl := congrArg List.length h
  simp at hl
  have hp := enc_pos t.length
  rw [readStr, hi]
  simp only
  rw [if_neg (by omega)]
  have hd : s.drop (k + (enc t.length).length) = t ++ rest := by
    rw [← List.drop_drop, h, List.append_assoc, List.drop_left]
  rw [hd]
  simp [Nat.add_assoc]
theorem readStr_some {s t : List UInt8} {k next : Nat} (hk : k ≤ s.length) (h : readStr s k = some (t, next)) : t.length ≤ 65536 ∧ next = k + (encS t).length ∧ next ≤ s.length ∧ ∃ rest, s.drop k = encS t ++ rest := by
  rw [readStr] at h
  cases hr : readInt s k with
  | none => rw [hr] at h; cases h
  | some p =>
    obtain ⟨n, nx⟩ := p
    rw [hr] at h
    simp only at h
    obtain ⟨_, _, hnx, rest, hs⟩ := readInt_some hr
    have hb := readInt_bounds hr hk
    by_cases hc : n < 0 ∨ 65536 < n ∨ (s.length : Int) - nx < n
    · rw [if_pos hc] at h; cases h
    · rw [if_neg hc] at h
      simp only [Option.some.injEq, Prod.mk.injEq] at h
      obtain ⟨ht, hn⟩ := h
      have hl : t.length = n.toNat := by rw [← ht]; simp; omega
      have e : ((t.length : Nat) : Int) = n := by omega
      have hd : s.drop nx = rest := by rw [hnx, ← List.drop_drop, hs, List.drop_left]
      refine ⟨by omega, ?_, by omega, rest.drop n.toNat, ?_⟩
      · simp only [encS, List.length_append, e]; omega
      · rw [hs, encS, e, List.append_assoc, ← ht, hd, List.take_append_drop]
theorem encS_len (t : List UInt8) : (encS t).length ≤ t.length + 9 := by have := enc_len t.length; simp [encS]; omega
theorem encS_pos (t : List UInt8) : 1 ≤ (encS t).length := by have := enc_pos t.length; simp [encS]; omega
/-- A proper part of an encoding of a string is none. -/
theorem readStr_part {t : List UInt8} {j : Nat} (ht : t.length ≤ 65536) (hj : j < (encS t).length) : readStr ((encS t).take j) 0 = none := by
  cases hr : readStr ((encS t).take j) 0 with
  | none => rfl
  | some p =>
    obtain ⟨u, next⟩ := p
    obtain ⟨hu, hnx, hle, rest, hs⟩ := readStr_some (by omega) hr
    rw [List.drop_zero] at hs
    have h1 : encS t = encS u ++ (rest ++ (encS t).drop j) := by
      have := List.take_append_drop j (encS t)
      rw [hs] at this
      rw [← List.append_assoc]; exact this.symm
    have h2 := readStr_enc (s := encS t) (rest := []) (k := 0) ht (by simp)
    have h3 := readStr_enc (s := encS t) (rest := rest ++ (encS t).drop j) (k := 0) hu (by simpa using h1)
    rw [h2] at h3
    simp only [Option.some.injEq, Prod.mk.injEq] at h3
    rw [← h3.1] at hnx
    simp at hle
    omega
end Go.Proofs.YtinknenfhohamaaGreatDoor

namespace Go.Proofs.YtinknenfhohamaaGreatDoor

/-- Whether the numbers of an event are in their ranges. -/
def okE (e : Ev) : Bool := decide (0 ≤ e.tm ∧ e.tm ≤ 20000) && decide (1 ≤ e.kd ∧ e.kd ≤ 5) && decide (0 ≤ e.a ∧ e.a ≤ 65535) && decide (0 ≤ e.b ∧ e.b ≤ 65535)
theorem okE_iff {e : Ev} : okE e = true ↔ (0 ≤ e.tm ∧ e.tm ≤ 20000) ∧ (1 ≤ e.kd ∧ e.kd ≤ 5) ∧ (0 ≤ e.a ∧ e.a ≤ 65535) ∧ (0 ≤ e.b ∧ e.b ≤ 65535) := by
  simp only [okE, Bool.and_eq_true, decide_eq_true_eq, and_assoc]
/-- Whether times ascend. -/
def ascB (L : List Ev) : Bool := (List.range (L.length - 1)).all fun k => decide (tmAt L k ≤ tmAt L (k + 1))
theorem ascB_iff {L : List Ev} : ascB L = true ↔ ∀ k, k + 1 < L.length → tmAt L k ≤ tmAt L (k + 1) := by
  simp only [ascB, List.all_eq_true, List.mem_range, decide_eq_true_eq]
  constructor
  · intro h k hk; exact h k (by omega)
  · intro h k hk; exact h k (by omega)
/-- Whether a performance is valid. -/
def validP (L : List Ev) : Bool := decide (L.length ≤ 1000) && ascB L && L.all okE
theorem validP_iff {L : List Ev} : validP L = true ↔ L.length ≤ 1000 ∧ ascB L = true ∧ ∀ e ∈ L, okE e = true := by
  simp only [validP, Bool.and_eq_true, decide_eq_true_eq, List.all_eq_true, and_assoc]

/-- The time of the last event, or a given one. -/
def lastT (t : Int) : List Ev → Int
  | [] => t
  | e :: L => lastT e.tm L
def encFrom (t : Int) : List Ev → List UInt8
  | [] => []
  | e :: L => enc (e.tm - t) ++ (enc e.kd ++ (enc e.a ++ (enc e.b ++ encFrom e.tm L)))
def encE (L : List Ev) : List UInt8 := enc L.length ++ encFrom 0 L
theorem lastT_append (A B : List Ev) : ∀ t, lastT t (A ++ B) = lastT (lastT t A) B := by
  induction A with
  | nil => intro t; rfl
  | cons e A ih => intro t; exact ih e.tm
theorem encFrom_append (A B : List Ev) : ∀ t, encFrom t (A ++ B) = encFrom t A ++ encFrom (lastT t A) B := by
  induction A with
  | nil => intro t; rfl
  | cons e A ih => intro t; simp only [List.cons_append, encFrom, ih, lastT, List.append_assoc]
theorem lastT_snoc (A : List Ev) (e : Ev) (t : Int) : lastT t (A ++ [e]) = e.tm := by rw [lastT_append]; rfl
theorem encFrom_snoc (A : List Ev) (e : Ev) (t : Int) : encFrom t (A ++ [e]) = encFrom t A ++ enc (e.tm - lastT t A) ++ enc e.kd ++ enc e.a ++ enc e.b := by
  rw [encFrom_append]; simp [encFrom]
theorem encFrom_length (A : List Ev) : ∀ t, (encFrom t A).length ≤ 36 * A.length := by
  induction A with
  | nil => intro t; simp [encFrom]
  | cons e A ih =>
    intro t
    have h1 := enc_len (e.tm - t)
    have h2 := enc_len e.kd
    have h3 := enc_len e.a
    have h4 := enc_len e.b
    have h5 := ih e.tm
    simp only [encFrom, List.length_append, List.length_cons]
    omega

/-- Four numbers, one behind the other. -/
def read4 (s : List UInt8) (k : Nat) : Option (Int × Int × Int × Int × Nat) :=
  match readInt s k with
  | none => none
  | some (a, k1) => match readInt s k1 with
    | none => none
    | some (b, k2) => match readInt s k2 with
      | none => none
      | some (c, k3) => match readInt s k3 with
        | none => none
        | some (d, k4) => some (a, b, c, d, k4)
/-- How far a reader has come. -/
structure DS where
  pos : Nat
  last : Int
  odd : Bool
  evs : List Ev
def oddN (x : DS) (n : Int) : Bool := x.odd || !decide (0 ≤ n ∧ n ≤ 20000)
def lastN (x : DS) (n : Int) : Int := if oddN x n then x.last else x.last + n
def stepD (s : List UInt8) (x : DS) : Option DS := match read4 s x.pos with
  | none => none
  | some (n, k, a, b, p) => some ⟨p, lastN x n, oddN x n, x.evs ++ [⟨lastN x n, k, a, b⟩]⟩
def runD (s : List UInt8) (k0 : Nat) : Nat → Option DS
  | 0 => some ⟨k0, 0, false, []⟩
  | j + 1 => match runD s k0 j with
    | none => none
    | some x => stepD s x
/-- What Decode returns. -/
def decodeR (s : List UInt8) : List Ev × Int :=
  match readInt s 0 with
  | none => ([], 10)
  | some (n, k0) => if 0 ≤ n ∧ n ≤ 1000 then
      match runD s k0 n.toNat with
      | none => ([], 10)
      | some x => if x.pos = s.length then if x.odd || !validP x.evs then ([], 130) else (x.evs, 0) else ([], 10)
    else ([], 130)
/-- What Encode returns. -/
def encodeR (L : List Ev) : List UInt8 × Int := if validP L then (encE L, 0) else ([], 130)

def I62 (n : Int) : Prop := -4611686018427387903 ≤ n ∧ n ≤ 4611686018427387903
theorem read4_enc {s rest : List UInt8} {k : Nat} {a b c d : Int} (ha : I62 a) (hb : I62 b) (hc : I62 c) (hd : I62 d) (h : s.drop k = enc a ++ (enc b ++ (enc c ++ (enc d ++ rest)))) :
    read4 s k = some (a, b, c, d, k + (enc a).length + (enc b).length + (enc c).length + (enc d).length) := by
  have next : ∀ {k : Nat} {n : Int} {r : List UInt8}, s.drop k = enc n ++ r → s.drop (k + (enc n).length) = r := by
    intro k n r h
    rw [← List.drop_drop, h, List.drop_left]
  unfold read4
  rw [readInt_enc ha.1 ha.2 h]
  have h := next h
  simp only
  rw [readInt_enc hb.1 hb.2 h]
  have h := next h
  simp only
  rw [readInt_enc hc.1 hc.2 h]
  have h := next h
  simp only
  rw [readInt_enc hd.1 hd.2 h]
theorem drop_next {s rest : List UInt8} {k next : Nat} {n : Int} (h1 : next = k + (enc n).length) (h2 : s.drop k = enc n ++ rest) : s.drop k = enc n ++ s.drop next := by
  have : s.drop next = rest := by rw [h1, ← List.drop_drop, h2, List.drop_left]
  rw [this]; exact h2
theorem read4_some {s : List UInt8} {k p : Nat} {a b c d : Int} (h : read4 s k = some (a, b, c, d, p)) :
    I62 a ∧ I62 b ∧ I62 c ∧ I62 d ∧ s.drop k = enc a ++ (enc b ++ (enc c ++ (enc d ++ s.drop p))) := by
  unfold read4 at h
  cases h1 : readInt s k with
  | none => rw [h1] at h; cases h
  | some x =>
  obtain ⟨a', k1⟩ := x
  rw [h1] at h
  simp only at h
  cases h2 : readInt s k1 with
  | none => rw [h2] at h; cases h
  | some x =>
  obtain ⟨b', k2⟩ := x
  rw [h2] at h
  simp only at h
  cases h3 : readInt s k2 with
  | none => rw [h3] at h; cases h
  | some x =>
  obtain ⟨c', k3⟩ := x
  rw [h3] at h
  simp only at h
  cases h4 : readInt s k3 with
  | none => rw [h4] at h; cases h
  | some x =>
  obtain ⟨d', k4⟩ := x
  rw [h4] at h
  simp only [Option.some.injEq, Prod.mk.injEq] at h
  obtain ⟨rfl, rfl, rfl, rfl, rfl⟩ := h
  obtain ⟨a0, a1, a2, _, a3⟩ := readInt_some h1
  obtain ⟨b0, b1, b2, _, b3⟩ := readInt_some h2
  obtain ⟨c0, c1, c2, _, c3⟩ := readInt_some h3
  obtain ⟨d0, d1, d2, _, d3⟩ := readInt_some h4
  refine ⟨⟨a0, a1⟩, ⟨b0, b1⟩, ⟨c0, c1⟩, ⟨d0, d1⟩, ?_⟩
  rw [← drop_next d2 d3, ← drop_next c2 c3, ← drop_next b2 b3, ← drop_next a2 a3]
theorem runD_length {s : List UInt8} {k0 : Nat} : ∀ {j : Nat} {x : DS}, runD s k0 j = some x → x.evs.length = j
  | 0, x, h => by simp only [runD, Option.some.injEq] at h; subst h; rfl
  | j + 1, x, h => by
    unfold runD at h
    cases hj : runD s k0 j with
    | none => rw [hj] at h; cases h
    | some y =>
      rw [hj] at h
      simp only [stepD] at h
      cases hr : read4 s y.pos with
      | none => rw [hr] at h; cases h
      | some z =>
        obtain ⟨n, k, a, b, p⟩ := z
        rw [hr] at h
        simp only [Option.some.injEq] at h
        subst h
        simp [runD_length hj]
/-- What has been read stands there. -/
theorem runD_good {s : List UInt8} {k0 : Nat} : ∀ {j : Nat} {x : DS}, runD s k0 j = some x → x.odd = false → s.drop k0 = encFrom 0 x.evs ++ s.drop x.pos ∧ x.last = lastT 0 x.evs
  | 0, x, h, _ => by simp only [runD, Option.some.injEq] at h; subst h; exact ⟨rfl, rfl⟩
  | j + 1, x, h, ho => by
    unfold runD at h
    cases hj : runD s k0 j with
    | none => rw [hj] at h; cases h
    | some y =>
      rw [hj] at h
      simp only [stepD] at h
      cases hr : read4 s y.pos with
      | none => rw [hr] at h; cases h
      | some z =>
        obtain ⟨n, k, a, b, p⟩ := z
        rw [hr] at h
        simp only [Option.some.injEq] at h
        subst h
        simp only at ho ⊢
        have hy : y.odd = false := by
          simp only [oddN, Bool.or_eq_false_iff] at ho
          exact ho.1
        obtain ⟨h1, h2⟩ := runD_good hj hy
        obtain ⟨_, _, _, _, h3⟩ := read4_some hr
        have hl : lastN y n = y.last + n := by rw [lastN, ho]; rfl
        refine ⟨?_, by rw [lastT_snoc]⟩
        rw [encFrom_snoc]
        simp only
        rw [show lastN y n - lastT 0 y.evs = n by rw [hl, h2]; omega, h1, h3]
        simp only [List.append_assoc]
theorem pairs_take {L : List Ev} {j : Nat} {e : Ev} (h : L[j]? = some e) : L.take (j + 1) = L.take j ++ [e] := by rw [List.take_add_one, h]; rfl
theorem lastT_take {L : List Ev} : ∀ {j : Nat}, j ≤ L.length → lastT 0 (L.take j) = if j = 0 then 0 else tmAt L (j - 1)
  | 0, _ => rfl
  | j + 1, h => by
    obtain ⟨e, he⟩ : ∃ e, L[j]? = some e := ⟨_, List.getElem?_eq_getElem (by omega)⟩
    rw [pairs_take he, lastT_snoc]
    simp [tmAt, List.getD_eq_getElem?_getD, he]
/-- The gap ahead of an event. -/
theorem gap_ok {L : List Ev} (hv : validP L = true) {j : Nat} {e : Ev} (he : L[j]? = some e) : 0 ≤ e.tm - lastT 0 (L.take j) ∧ e.tm - lastT 0 (L.take j) ≤ 20000 ∧ 0 ≤ lastT 0 (L.take j) := by
  obtain ⟨-, ha, ho⟩ := validP_iff.1 hv
  have hj := (List.getElem?_eq_some_iff.1 he).1
  have h1 := okE_iff.1 (ho e (List.mem_of_getElem? he))
  rw [lastT_take (by omega)]
  by_cases h0 : j = 0
  · rw [if_pos h0]; omega
  · rw [if_neg h0]
    have h2 := ascB_iff.1 ha (j - 1) (by omega)
    rw [show j - 1 + 1 = j by omega] at h2
    have h3 : tmAt L j = e.tm := by simp [tmAt, List.getD_eq_getElem?_getD, he]
    have h4 : 0 ≤ tmAt L (j - 1) := by
      obtain ⟨f, hf⟩ : ∃ f, L[j - 1]? = some f := ⟨_, List.getElem?_eq_getElem (by omega)⟩
      have := okE_iff.1 (ho f (List.mem_of_getElem? hf))
      simp only [tmAt, List.getD_eq_getElem?_getD, hf, Option.getD_some]
      omega
    omega
theorem runD_enc {L : List Ev} (hv : validP L = true) : ∀ j, j ≤ L.length → runD (encE L) (enc L.length).length j = some ⟨(enc L.length).length + (encFrom 0 (L.take j)).length, lastT 0 (L.take j), false, L.take j⟩
  | 0, _ => by simp [runD, encFrom, lastT]
  | j + 1, h => by
    obtain ⟨e, he⟩ : ∃ e, L[j]? = some e := ⟨_, List.getElem?_eq_getElem (by omega)⟩
    obtain ⟨g0, g1, g2⟩ := gap_ok hv he
    obtain ⟨-, -, ho⟩ := validP_iff.1 hv
    have h1 := okE_iff.1 (ho e (List.mem_of_getElem? he))
    unfold runD
    rw [runD_enc hv j (by omega)]
    simp only [stepD]
    have hL : L = L.take j ++ e :: L.drop (j + 1) := by
      have := List.drop_eq_getElem_cons (l := L) (i := j) (by omega)
      rw [(List.getElem?_eq_some_iff.1 he).2] at this
      rw [← this, List.take_append_drop]
    have hd : (encE L).drop ((enc L.length).length + (encFrom 0 (L.take j)).length) = enc (e.tm - lastT 0 (L.take j)) ++ (enc e.kd ++ (enc e.a ++ (enc e.b ++ encFrom e.tm (L.drop (j + 1))))) := by
      rw [encE, ← List.drop_drop, List.drop_left]
      have h2 : encFrom 0 L = encFrom 0 (L.take j) ++ encFrom (lastT 0 (L.take j)) (e :: L.drop (j + 1)) := by
        rw [← encFrom_append, ← hL]
      rw [h2, List.drop_left]
      rfl
    rw [read4_enc ⟨by omega, by omega⟩ ⟨by omega, by omega⟩ ⟨by omega, by omega⟩ ⟨by omega, by omega⟩ hd]
    simp only
    have hoN : ∀ p, oddN ⟨p, lastT 0 (L.take j), false, L.take j⟩ (e.tm - lastT 0 (L.take j)) = false := by
      intro p
      simp only [oddN, Bool.false_or, Bool.not_eq_false', decide_eq_true_eq]
      exact ⟨g0, g1⟩
    have hlN : ∀ p, lastN ⟨p, lastT 0 (L.take j), false, L.take j⟩ (e.tm - lastT 0 (L.take j)) = e.tm := by
      intro p
      rw [lastN, hoN]
      simp only [Bool.false_eq_true, if_false]
      omega
    rw [hoN, hlN, pairs_take he, lastT_snoc, encFrom_snoc]
    simp only [List.length_append, Option.some.injEq, DS.mk.injEq, and_true]
    omega
/-- A valid performance is decoded from its encoding. -/
theorem decode_encode {L : List Ev} (hv : validP L = true) : decodeR (encE L) = (L, 0) := by
  have hl := (validP_iff.1 hv).1
  unfold decodeR
  rw [readInt_enc (s := encE L) (rest := encFrom 0 L) (k := 0) (n := L.length) (by omega) (by omega) (by rfl), Nat.zero_add]
  simp only
  rw [if_pos (by omega), Int.toNat_natCast, runD_enc hv L.length (Nat.le_refl _), List.take_length]
  simp only
  rw [if_pos (by simp [encE]), hv]
  simp
/-- What Decode accepts is the encoding of what it returns. -/
theorem encode_decode {s : List UInt8} {L : List Ev} (h : decodeR s = (L, 0)) : validP L = true ∧ encE L = s := by
  unfold decodeR at h
  cases hr : readInt s 0 with
  | none => rw [hr] at h; simp at h
  | some p =>
    obtain ⟨n, k0⟩ := p
    rw [hr] at h
    simp only at h
    by_cases hn : 0 ≤ n ∧ n ≤ 1000
    · rw [if_pos hn] at h
      cases hd : runD s k0 n.toNat with
      | none => rw [hd] at h; simp at h
      | some x =>
        rw [hd] at h
        simp only at h
        by_cases hp : x.pos = s.length
        · rw [if_pos hp] at h
          cases ho : (x.odd || !validP x.evs) with
          | true => rw [ho] at h; simp at h
          | false =>
            rw [ho] at h
            simp only [Bool.or_eq_false_iff, Bool.not_eq_false'] at ho
            simp only [Bool.false_eq_true, if_false, Prod.mk.injEq, and_true] at h
            subst h
            obtain ⟨h1, -⟩ := runD_good hd ho.1
            obtain ⟨_, _, h2, _, h3⟩ := readInt_some hr
            have h4 := drop_next h2 h3
            refine ⟨ho.2, ?_⟩
            rw [List.drop_zero] at h4
            rw [h4, h1, hp, List.drop_length, List.append_nil, encE, runD_length hd, Int.toNat_of_nonneg hn.1]
        · rw [if_neg hp] at h; simp at h
    · rw [if_neg hn] at h; simp at h
theorem encE_inj {L M : List Ev} (hL : validP L = true) (hM : validP M = true) (h : encE L = encE M) : L = M := by
  have h1 := decode_encode hL
  rw [h, decode_encode hM] at h1
  simp only [Prod.mk.injEq, and_true] at h1
  exact h1.symm
theorem decodeR_err {s : List UInt8} {L : List Ev} {e : Int} (h : decodeR s = (L, e)) (he : e ≠ 0) : L = [] := by
  unfold decodeR at h
  cases hr : readInt s 0 with
  | none => rw [hr] at h; simp at h; exact h.1
  | some p =>
    obtain ⟨n, k0⟩ := p
    rw [hr] at h
    simp only at h
    by_cases hn : 0 ≤ n ∧ n ≤ 1000
    · rw [if_pos hn] at h
      cases hd : runD s k0 n.toNat with
      | none => rw [hd] at h; simp at h; exact h.1
      | some x =>
        rw [hd] at h
        simp only at h
        by_cases hp : x.pos = s.length
        · rw [if_pos hp] at h
          cases ho : (x.odd || !validP x.evs) with
          | true => rw [ho] at h; simp at h; exact h.1
          | false =>
            rw [ho] at h
            simp only [Bool.false_eq_true, if_false, Prod.mk.injEq] at h
            exact absurd h.2.symm he
        · rw [if_neg hp] at h; simp at h; exact h.1
    · rw [if_neg hn] at h; simp at h; exact h.1
end Go.Proofs.YtinknenfhohamaaGreatDoor
