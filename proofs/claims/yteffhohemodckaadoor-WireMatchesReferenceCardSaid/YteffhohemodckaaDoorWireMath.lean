/- Plain facts on the encoding of integers and strings as bytes, and on the checksum: no program in sight. -/
import Init
namespace Go.Proofs.YteffhohemodckaaDoor

/-! ### Integers -/
/-- The number that is encoded for n. -/
def zig (n : Int) : Nat := if n < 0 then (-2 * n - 1).toNat else (2 * n).toNat
/-- Back. -/
def unzig (z : Nat) : Int := if z % 2 = 1 then -((z / 2 : Nat) : Int) - 1 else ((z / 2 : Nat) : Int)

theorem unzig_zig (n : Int) : unzig (zig n) = n := by
  unfold unzig zig
  by_cases h : n < 0
  · rw [if_pos h, if_pos (by omega)]; omega
  · rw [if_neg h, if_neg (by omega)]; omega
theorem zig_unzig (z : Nat) : zig (unzig z) = z := by
  unfold unzig zig
  by_cases h : z % 2 = 1
  · rw [if_pos h, if_pos (by omega)]; omega
  · rw [if_neg h, if_neg (by omega)]; omega

/-- The greatest integer that has an encoding. -/
def big : Int := 4611686018427387903
theorem zig_lt {n : Int} (h0 : -4611686018427387903 ≤ n) (h1 : n ≤ 4611686018427387903) : zig n < 9223372036854775807 := by
  unfold zig; split <;> omega
theorem unzig_hi {z : Nat} (h : z < 9223372036854775808) : -4611686018427387904 ≤ unzig z ∧ unzig z ≤ 4611686018427387903 := by
  unfold unzig; split <;> omega

/-- The groups of seven bits of z, the least one first, at most f of them. -/
def leb : Nat → Nat → List UInt8
  | 0, _ => []
  | f + 1, z => if z < 128 then [UInt8.ofNat z] else UInt8.ofNat (z % 128 + 128) :: leb f (z / 128)

theorem leb_lo (f z : Nat) (h : z < 128) : leb (f + 1) z = [UInt8.ofNat z] := by rw [leb, if_pos h]
theorem leb_hi (f z : Nat) (h : 128 ≤ z) : leb (f + 1) z = UInt8.ofNat (z % 128 + 128) :: leb f (z / 128) := by rw [leb, if_neg (by omega)]

theorem leb_fuel (f : Nat) : ∀ (g z : Nat), z < 128 ^ f → f ≤ g → 1 ≤ f → leb g z = leb f z := by
  induction f with
  | zero => intro g z _ _ h; omega
  | succ f ih =>
    intro g z hz hg _
    obtain ⟨g, rfl⟩ : ∃ g', g = g' + 1 := ⟨g - 1, by omega⟩
    by_cases h : z < 128
    · rw [leb_lo _ _ h, leb_lo _ _ h]
    · rw [leb_hi _ _ (by omega), leb_hi _ _ (by omega)]
      have hf : 1 ≤ f := by
        rcases Nat.eq_zero_or_pos f with rfl | hf
        · simp at hz; omega
        · exact hf
      rw [ih g (z / 128) (by rw [Nat.pow_succ] at hz; omega) (by omega) hf]

theorem leb_len (f : Nat) : ∀ z : Nat, (leb f z).length ≤ f := by
  induction f with
  | zero => intro z; simp [leb]
  | succ f ih => intro z; rw [leb]; split <;> simp; exact ih _
theorem leb_pos (f z : Nat) : 1 ≤ (leb (f + 1) z).length := by rw [leb]; split <;> simp

/-- The encoding of an integer. -/
def enc (n : Int) : List UInt8 := leb 9 (zig n)
theorem enc_len (n : Int) : (enc n).length ≤ 9 := leb_len _ _
theorem enc_pos (n : Int) : 1 ≤ (enc n).length := leb_pos _ _

/-- The loop that reads: i groups were read, which give z; f are left. -/
def scan (s : List UInt8) (k : Nat) : Nat → Nat → Nat → Option (Int × Nat)
  | 0, _, _ => none
  | f + 1, i, z =>
    match s[k + i]? with
    | none => none
    | some b =>
      if 128 ≤ b.toNat then scan s k f (i + 1) (z + b.toNat % 128 * 128 ^ i)
      else if (b.toNat = 0 ∧ 0 < i) ∨ unzig (z + b.toNat % 128 * 128 ^ i) < -4611686018427387903 then none
      else some (unzig (z + b.toNat % 128 * 128 ^ i), k + i + 1)
/-- What the bytes from k on encode, and the place behind it. -/
def readInt (s : List UInt8) (k : Nat) : Option (Int × Nat) := scan s k 9 0 0

theorem scan_out {s : List UInt8} {k i z : Nat} (f : Nat) (h : s.length ≤ k + i) : scan s k (f + 1) i z = none := by
  rw [scan, List.getElem?_eq_none h]
theorem scan_more {s : List UInt8} {k i z : Nat} {b : UInt8} (f : Nat) (h : s[k + i]? = some b) (hb : 128 ≤ b.toNat) : scan s k (f + 1) i z = scan s k f (i + 1) (z + b.toNat % 128 * 128 ^ i) := by
  rw [scan, h]; simp only; rw [if_pos hb]
theorem scan_bad {s : List UInt8} {k i z : Nat} {b : UInt8} (f : Nat) (h : s[k + i]? = some b) (hb : b.toNat < 128) (hx : (b.toNat = 0 ∧ 0 < i) ∨ unzig (z + b.toNat % 128 * 128 ^ i) < -4611686018427387903) : scan s k (f + 1) i z = none := by
  rw [scan, h]; simp only; rw [if_neg (by omega), if_pos hx]
theorem scan_end {s : List UInt8} {k i z : Nat} {b : UInt8} (f : Nat) (h : s[k + i]? = some b) (hb : b.toNat < 128) (hx : ¬ ((b.toNat = 0 ∧ 0 < i) ∨ unzig (z + b.toNat % 128 * 128 ^ i) < -4611686018427387903)) : scan s k (f + 1) i z = some (unzig (z + b.toNat % 128 * 128 ^ i), k + i + 1) := by
  rw [scan, h]; simp only; rw [if_neg (by omega), if_neg hx]

theorem ofNat_toNat8 {x : Nat} (h : x < 256) : (UInt8.ofNat x).toNat = x := by simp; omega

theorem scan_leb (f : Nat) : ∀ (s rest : List UInt8) (k i z y : Nat), y < 128 ^ f → 1 ≤ f → (i = 0 ∨ y ≠ 0) → s.drop (k + i) = leb f y ++ rest →
    scan s k f i z = if unzig (z + y * 128 ^ i) < -4611686018427387903 then none else some (unzig (z + y * 128 ^ i), k + i + (leb f y).length) := by
  induction f with
  | zero => intro s rest k i z y _ h; omega
  | succ f ih =>
    intro s rest k i z y hy _ hi hs
    by_cases h : y < 128
    · rw [leb_lo _ _ h] at hs ⊢
      have hb : s[k + i]? = some (UInt8.ofNat y) := by
        have := congrArg (·[0]?) hs
        simpa using this
      have hv : (UInt8.ofNat y).toNat = y := ofNat_toNat8 (by omega)
      have e : (UInt8.ofNat y).toNat % 128 * 128 ^ i = y * 128 ^ i := by rw [hv, Nat.mod_eq_of_lt h]
      by_cases hx : unzig (z + y * 128 ^ i) < -4611686018427387903
      · rw [if_pos hx, scan_bad f hb (by omega) (.inr (by rw [e]; exact hx))]
      · rw [if_neg hx, scan_end f hb (by omega) (by rw [e, hv]; rintro (⟨a, b⟩ | a); omega; exact hx a), e]; simp
    · rw [leb_hi _ _ (by omega)] at hs ⊢
      have hb : s[k + i]? = some (UInt8.ofNat (y % 128 + 128)) := by
        have := congrArg (·[0]?) hs
        simpa using this
      have hv : (UInt8.ofNat (y % 128 + 128)).toNat = y % 128 + 128 := ofNat_toNat8 (by omega)
      have hs' : s.drop (k + (i + 1)) = leb f (y / 128) ++ rest := by
        have := congrArg (List.drop 1) hs
        rw [List.drop_drop] at this
        rw [← Nat.add_assoc]
        simpa using this
      have hf : 1 ≤ f := by
        rcases Nat.eq_zero_or_pos f with rfl | hf
        · simp at hy; omega
        · exact hf
      have e : z + (UInt8.ofNat (y % 128 + 128)).toNat % 128 * 128 ^ i + y / 128 * 128 ^ (i + 1) = z + y * 128 ^ i := by
        rw [hv, Nat.pow_succ]
        have h1 : (y % 128 + 128) % 128 = y % 128 := by omega
        have h2 : y % 128 + y / 128 * 128 = y := by omega
        rw [h1, Nat.add_assoc, show y / 128 * (128 ^ i * 128) = (y / 128 * 128) * 128 ^ i by rw [Nat.mul_comm (128 ^ i), Nat.mul_assoc], ← Nat.add_mul, h2]
      rw [scan_more f hb (by omega), ih s rest k (i + 1) _ (y / 128) (by rw [Nat.pow_succ] at hy; omega) hf (.inr (by omega)) hs', e]
      simp only [List.length_cons]
      have : k + (i + 1) + (leb f (y / 128)).length = k + i + ((leb f (y / 128)).length + 1) := by omega
      rw [this]

theorem scan_some (f : Nat) : ∀ (s : List UInt8) (k i z : Nat) (n : Int) (next : Nat), scan s k f i z = some (n, next) →
    ∃ (y : Nat) (rest : List UInt8), y < 128 ^ f ∧ (i = 0 ∨ y ≠ 0) ∧ s.drop (k + i) = leb f y ++ rest ∧ n = unzig (z + y * 128 ^ i) ∧ -4611686018427387903 ≤ n ∧ next = k + i + (leb f y).length := by
  induction f with
  | zero => intro s k i z n next h; simp [scan] at h
  | succ f ih =>
    intro s k i z n next h
    rw [scan] at h
    cases hb : s[k + i]? with
    | none => rw [hb] at h; cases h
    | some b =>
      rw [hb] at h
      simp only at h
      have hlt : k + i < s.length := by
        rcases Nat.lt_or_ge (k + i) s.length with h | h
        · exact h
        · rw [List.getElem?_eq_none h] at hb; cases hb
      have hb' : s[k + i] = b := by rw [List.getElem?_eq_getElem hlt] at hb; exact Option.some.inj hb
      have hd : s.drop (k + i) = b :: s.drop (k + (i + 1)) := by rw [List.drop_eq_getElem_cons hlt, hb']; rfl
      have hbl := b.toNat_lt
      by_cases h1 : 128 ≤ b.toNat
      · rw [if_pos h1] at h
        obtain ⟨y, rest, hy, hi, hs, hn, hlo, hnx⟩ := ih s k (i + 1) _ n next h
        have hy0 : y ≠ 0 := by rcases hi with hi | hi; omega; exact hi
        have e0 : (b.toNat % 128 + y * 128) % 128 + 128 = b.toNat := by omega
        have e1 : (b.toNat % 128 + y * 128) / 128 = y := by omega
        have e2 : leb (f + 1) (b.toNat % 128 + y * 128) = b :: leb f y := by
          rw [leb_hi _ _ (by omega), e0, e1]; simp
        refine ⟨b.toNat % 128 + y * 128, rest, by rw [Nat.pow_succ]; omega, .inr (by omega), by rw [hd, hs, e2]; rfl, ?_, hlo, by rw [e2, hnx]; simp; omega⟩
        rw [hn, Nat.pow_succ]
        congr 1
        rw [Nat.add_mul, Nat.add_assoc, Nat.mul_comm (128 ^ i) 128, Nat.mul_assoc]
      · rw [if_neg h1] at h
        by_cases h2 : (b.toNat = 0 ∧ 0 < i) ∨ unzig (z + b.toNat % 128 * 128 ^ i) < -4611686018427387903
        · rw [if_pos h2] at h; cases h
        · rw [if_neg h2] at h
          cases h
          have e2 : leb (f + 1) b.toNat = [b] := by rw [leb_lo _ _ (by omega)]; simp
          have e3 : b.toNat % 128 = b.toNat := by omega
          rw [e3] at h2 ⊢
          refine ⟨b.toNat, s.drop (k + (i + 1)), ?_, by omega, by rw [hd, e2]; rfl, rfl, by omega, by rw [e2]; rfl⟩
          have : 1 ≤ 128 ^ f := Nat.one_le_pow _ _ (by omega)
          rw [Nat.pow_succ]; omega

/-- What stands in a text is read back. -/
theorem readInt_enc {s rest : List UInt8} {k : Nat} {n : Int} (h0 : -4611686018427387903 ≤ n) (h1 : n ≤ 4611686018427387903) (h : s.drop k = enc n ++ rest) : readInt s k = some (n, k + (enc n).length) := by
  have hz := zig_lt h0 h1
  have := scan_leb 9 s rest k 0 0 (zig n) (by omega) (by omega) (.inl rfl) (by simpa [enc] using h)
  rw [readInt, this]
  simp only [Nat.pow_zero, Nat.mul_one, Nat.zero_add, Nat.add_zero, unzig_zig]
  rw [if_neg (by omega)]; rfl
/-- What is read stands there. -/
theorem readInt_some {s : List UInt8} {k : Nat} {n : Int} {next : Nat} (h : readInt s k = some (n, next)) :
    -4611686018427387903 ≤ n ∧ n ≤ 4611686018427387903 ∧ next = k + (enc n).length ∧ ∃ rest, s.drop k = enc n ++ rest := by
  obtain ⟨y, rest, hy, _, hs, hn, hlo, hnx⟩ := scan_some 9 s k 0 0 n next h
  simp only [Nat.pow_zero, Nat.mul_one, Nat.zero_add, Nat.add_zero] at hs hn hnx
  have e : zig n = y := by rw [hn, zig_unzig]
  have := unzig_hi (z := y) (by omega)
  refine ⟨hlo, by omega, by rw [enc, e]; exact hnx, rest, by rw [enc, e]; exact hs⟩
theorem readInt_bounds {s : List UInt8} {k : Nat} {n : Int} {next : Nat} (h : readInt s k = some (n, next)) (hk : k ≤ s.length) : k < next ∧ next ≤ s.length ∧ next ≤ k + 9 := by
  obtain ⟨_, _, hn, rest, hs⟩ := readInt_some h
  have h1 := enc_pos n
  have h2 := enc_len n
  have := congrArg List.length hs
  simp at this
  omega

theorem enc_inj {m n : Int} {r t : List UInt8} (hm0 : -4611686018427387903 ≤ m) (hm1 : m ≤ 4611686018427387903) (hn0 : -4611686018427387903 ≤ n) (hn1 : n ≤ 4611686018427387903) (h : enc m ++ r = enc n ++ t) : m = n := by
  have h1 := readInt_enc (s := enc m ++ r) (rest := r) (k := 0) hm0 hm1 (by simp)
  have h2 := readInt_enc (s := enc m ++ r) (rest := t) (k := 0) hn0 hn1 (by simpa using h)
  rw [h1] at h2
  simp only [Option.some.injEq, Prod.mk.injEq] at h2
  exact h2.1

/-- A proper part of an encoding is none. -/
theorem readInt_part {n : Int} {j : Nat} (h0 : -4611686018427387903 ≤ n) (h1 : n ≤ 4611686018427387903) (hj : j < (enc n).length) : readInt ((enc n).take j) 0 = none := by
  cases hr : readInt ((enc n).take j) 0 with
  | none => rfl
  | some p =>
    obtain ⟨m, next⟩ := p
    obtain ⟨m0, m1, hnx, rest, hs⟩ := readInt_some hr
    have hb := readInt_bounds hr (by simp)
    have hs' : enc n = enc m ++ (rest ++ (enc n).drop j) := by
      have := List.take_append_drop j (enc n)
      rw [List.drop_zero] at hs
      rw [hs] at this
      rw [← List.append_assoc]; exact this.symm
    have e : n = m := enc_inj (r := []) h0 h1 m0 m1 (by simpa using hs')
    subst e
    have := hb.2.1
    simp at this
    omega

/-! ### Strings -/
/-- The encoding of a string. -/
def encS (t : List UInt8) : List UInt8 := enc t.length ++ t
/-- The string that the bytes from k on encode, and the place behind it. -/
def readStr (s : List UInt8) (k : Nat) : Option (List UInt8 × Nat) :=
  match readInt s k with
  | none => none
  | some (n, next) => if n < 0 ∨ 65536 < n ∨ (s.length : Int) - next < n then none else some ((s.drop next).take n.toNat, next + n.toNat)

theorem readStr_enc {s rest t : List UInt8} {k : Nat} (ht : t.length ≤ 65536) (h : s.drop k = encS t ++ rest) : readStr s k = some (t, k + (encS t).length) := by
  unfold encS at h ⊢
  have hi := readInt_enc (n := t.length) (by omega) (by omega) (by rw [h, List.append_assoc])
  have hl := congrArg List.length h
  simp at hl
  have hp := enc_pos t.length
  rw [readStr, hi]
  simp only
  rw [if_neg (by omega)]
  have hd : s.drop (k + (enc t.length).length) = t ++ rest := by
    rw [← List.drop_drop, h, List.append_assoc, List.drop_left]
  rw [hd]
  simp [Nat.add_assoc]
theorem readStr_some {s t : List UInt8} {k next : Nat} (hk : k ≤ s.length) (h : readStr s k = some (t, next)) : t.length ≤ 65536 ∧ next = k + (encS t).length ∧ next ≤ s.length ∧ ∃ rest, s.drop k = encS t ++ rest := by
  rw [readStr] at h
  cases hr : readInt s k with
  | none => rw [hr] at h; cases h
  | some p =>
    obtain ⟨n, nx⟩ := p
    rw [hr] at h
    simp only at h
    obtain ⟨_, _, hnx, rest, hs⟩ := readInt_some hr
    have hb := readInt_bounds hr hk
    by_cases hc : n < 0 ∨ 65536 < n ∨ (s.length : Int) - nx < n
    · rw [if_pos hc] at h; cases h
    · rw [if_neg hc] at h
      simp only [Option.some.injEq, Prod.mk.injEq] at h
      obtain ⟨ht, hn⟩ := h
      have hl : t.length = n.toNat := by rw [← ht]; simp; omega
      have e : ((t.length : Nat) : Int) = n := by omega
      have hd : s.drop nx = rest := by rw [hnx, ← List.drop_drop, hs, List.drop_left]
      refine ⟨by omega, ?_, by omega, rest.drop n.toNat, ?_⟩
      · simp only [encS, List.length_append, e]; omega
      · rw [hs, encS, e, List.append_assoc, ← ht, hd, List.take_append_drop]
theorem encS_len (t : List UInt8) : (encS t).length ≤ t.length + 9 := by have := enc_len t.length; simp [encS]; omega
theorem encS_pos (t : List UInt8) : 1 ≤ (encS t).length := by have := enc_pos t.length; simp [encS]; omega
/-- A proper part of an encoding of a string is none. -/
theorem readStr_part {t : List UInt8} {j : Nat} (ht : t.length ≤ 65536) (hj : j < (encS t).length) : readStr ((encS t).take j) 0 = none := by
  cases hr : readStr ((encS t).take j) 0 with
  | none => rfl
  | some p =>
    obtain ⟨u, next⟩ := p
    obtain ⟨hu, hnx, hle, rest, hs⟩ := readStr_some (by omega) hr
    rw [List.drop_zero] at hs
    have h1 : encS t = encS u ++ (rest ++ (encS t).drop j) := by
      have := List.take_append_drop j (encS t)
      rw [hs] at this
      rw [← List.append_assoc]; exact this.symm
    have h2 := readStr_enc (s := encS t) (rest := []) (k := 0) ht (by simp)
    have h3 := readStr_enc (s := encS t) (rest := rest ++ (encS t).drop j) (k := 0) hu (by simpa using h1)
    rw [h2] at h3
    simp only [Option.some.injEq, Prod.mk.injEq] at h3
    rw [← h3.1] at hnx
    simp at hle
    omega
end Go.Proofs.YteffhohemodckaaDoor
