/- SHA-256 on lists of bytes, as plain mathematics over natural numbers. Plain facts on the encoding of integers and strings as bytes, and on the checksum: no program in sight. Evidence as plain mathematics: stamps, breaks, what evidence is, from which day on it proves, until when it is good. No program in sight. Which witnesses are left: the bits of a number, break by break. No program in sight. The days from which on hash functions and witnesses are broken, place by place. No program in sight. -/
import Init
namespace Go.Proofs.YtkihcigojhcmgaaDoor

/-- A word rotated right. -/
def rotr (x n : Nat) : Nat := (x * 2 ^ (32 - n) % 4294967296) ||| (x / 2 ^ n)
def shaK : List Nat := [0x428a2f98, 0x71374491, 0xb5c0fbcf, 0xe9b5dba5, 0x3956c25b, 0x59f111f1, 0x923f82a4, 0xab1c5ed5, 0xd807aa98, 0x12835b01, 0x243185be, 0x550c7dc3, 0x72be5d74, 0x80deb1fe, 0x9bdc06a7, 0xc19bf174, 0xe49b69c1, 0xefbe4786, 0x0fc19dc6, 0x240ca1cc, 0x2de92c6f, 0x4a7484aa, 0x5cb0a9dc, 0x76f988da, 0x983e5152, 0xa831c66d, 0xb00327c8, 0xbf597fc7, 0xc6e00bf3, 0xd5a79147, 0x06ca6351, 0x14292967, 0x27b70a85, 0x2e1b2138, 0x4d2c6dfc, 0x53380d13, 0x650a7354, 0x766a0abb, 0x81c2c92e, 0x92722c85, 0xa2bfe8a1, 0xa81a664b, 0xc24b8b70, 0xc76c51a3, 0xd192e819, 0xd6990624, 0xf40e3585, 0x106aa070, 0x19a4c116, 0x1e376c08, 0x2748774c, 0x34b0bcb5, 0x391c0cb3, 0x4ed8aa4a, 0x5b9cca4f, 0x682e6ff3, 0x748f82ee, 0x78a5636f, 0x84c87814, 0x8cc70208, 0x90befffa, 0xa4506ceb, 0xbef9a3f7, 0xc67178f2]
def shaH : List Nat := [0x6a09e667, 0xbb67ae85, 0x3c6ef372, 0xa54ff53a, 0x510e527f, 0x9b05688c, 0x1f83d9ab, 0x5be0cd19]

/-- Four bytes as a word. -/
def word4 (a b c d : Nat) : Nat := ((a * 16777216 ||| b * 65536) ||| c * 256) ||| d
def word0 (b : List UInt8) (i : Nat) : Nat := word4 (b.getD (4 * i) 0).toNat (b.getD (4 * i + 1) 0).toNat (b.getD (4 * i + 2) 0).toNat (b.getD (4 * i + 3) 0).toNat
def sig0 (x : Nat) : Nat := (rotr x 7 ^^^ rotr x 18) ^^^ x / 8
def sig1 (x : Nat) : Nat := (rotr x 17 ^^^ rotr x 19) ^^^ x / 1024
/-- The next word of the schedule, of the words so far. -/
def nextW (w : List Nat) : Nat := (((w.getD (w.length - 16) 0 + sig0 (w.getD (w.length - 15) 0)) % 4294967296 + w.getD (w.length - 7) 0) % 4294967296 + sig1 (w.getD (w.length - 2) 0)) % 4294967296
def extW : Nat → List Nat → List Nat
  | 0, w => w
  | n + 1, w => extW n (w ++ [nextW w])
def sched (b : List UInt8) : List Nat := extW 48 ((List.range 16).map (word0 b))

def big1 (e : Nat) : Nat := (rotr e 6 ^^^ rotr e 11) ^^^ rotr e 25
def big0 (a : Nat) : Nat := (rotr a 2 ^^^ rotr a 13) ^^^ rotr a 22
def chf (e f g : Nat) : Nat := (e &&& f) ^^^ ((4294967295 - e) &&& g)
def maj (a b c : Nat) : Nat := ((a &&& b) ^^^ (a &&& c)) ^^^ (b &&& c)
def tee (v : List Nat) (k w : Nat) : Nat := ((((v.getD 7 0 + big1 (v.getD 4 0)) % 4294967296 + chf (v.getD 4 0) (v.getD 5 0) (v.getD 6 0)) % 4294967296 + k) % 4294967296 + w) % 4294967296
def you (v : List Nat) : Nat := (big0 (v.getD 0 0) + maj (v.getD 0 0) (v.getD 1 0) (v.getD 2 0)) % 4294967296
def step (v : List Nat) (k w : Nat) : List Nat := [(tee v k w + you v) % 4294967296, v.getD 0 0, v.getD 1 0, v.getD 2 0, (v.getD 3 0 + tee v k w) % 4294967296, v.getD 4 0, v.getD 5 0, v.getD 6 0]
/-- The working words after n rounds. -/
def rounds (w : List Nat) (h : List Nat) : Nat → List Nat
  | 0 => h
  | n + 1 => step (rounds w h n) (shaK.getD n 0) (w.getD n 0)
def addW (h v : List Nat) : List Nat := (List.range 8).map fun i => (h.getD i 0 + v.getD i 0) % 4294967296
def block (h : List Nat) (b : List UInt8) : List Nat := addW h (rounds (sched b) h 64)
def blocks : Nat → List Nat → List UInt8 → List Nat
  | 0, h, _ => h
  | n + 1, h, b => blocks n (block h (b.take 64)) (b.drop 64)
def be8 (n : Nat) : List UInt8 := (List.range 8).map fun i => UInt8.ofNat (n / 256 ^ (7 - i) % 256)
def pad (s : List UInt8) : List UInt8 := s ++ 128 :: (List.replicate ((119 - s.length % 64) % 64) 0 ++ be8 (8 * s.length))
def outW (h : List Nat) : List UInt8 := (List.range 32).map fun j => UInt8.ofNat (h.getD (j / 4) 0 / 256 ^ (3 - j % 4) % 256)
/-- SHA-256. -/
def sha (s : List UInt8) : List UInt8 := outW (blocks ((pad s).length / 64) shaH (pad s))

theorem extW_succ (n : Nat) : ∀ w, extW (n + 1) w = extW n w ++ [nextW (extW n w)] := by
  induction n with
  | zero => intro w; rfl
  | succ n ih => intro w; rw [extW, ih]; rfl
theorem extW_length (n : Nat) : ∀ w, (extW n w).length = w.length + n := by
  induction n with
  | zero => intro w; rfl
  | succ n ih => intro w; rw [extW, ih]; simp; omega
theorem nextW_lt (w : List Nat) : nextW w < 4294967296 := Nat.mod_lt _ (by decide)
theorem getD_append_lt {l : List Nat} {x N : Nat} (h : ∀ i, l.getD i 0 < N) (hx : x < N) (i : Nat) : (l ++ [x]).getD i 0 < N := by
  rcases Nat.lt_trichotomy i l.length with h1 | h1 | h1
  · have := h i
    rw [List.getD_eq_getElem?_getD] at this ⊢
    rw [List.getElem?_append_left h1]; exact this
  · rw [List.getD_eq_getElem?_getD, h1]; simpa using hx
  · rw [List.getD_eq_getElem?_getD, List.getElem?_eq_none (by simp; omega)]
    have := h (l.length)
    rw [List.getD_eq_getElem?_getD, List.getElem?_eq_none (Nat.le_refl _)] at this
    exact this
theorem extW_lt (n : Nat) (w : List Nat) (h : ∀ i, w.getD i 0 < 4294967296) : ∀ i, (extW n w).getD i 0 < 4294967296 := by
  induction n with
  | zero => exact h
  | succ n ih => rw [extW_succ]; exact getD_append_lt ih (nextW_lt _)
theorem be8_length (n : Nat) : (be8 n).length = 8 := by simp [be8]
theorem be8_take (n k : Nat) (hk : k < 8) : (be8 n).take (8 - k) = (be8 n).take (8 - (k + 1)) ++ [UInt8.ofNat (n / 256 ^ k % 256)] := by
  have h8 : 8 - k = 8 - (k + 1) + 1 := by omega
  have hl : 8 - (k + 1) < (be8 n).length := by rw [be8_length]; omega
  have hg : ∀ i, (be8 n)[i]? = (List.range 8)[i]?.map fun i => UInt8.ofNat (n / 256 ^ (7 - i) % 256) := fun i => by rw [be8, List.getElem?_map]
  have h0 : (be8 n)[8 - (k + 1)]? = some (UInt8.ofNat (n / 256 ^ k % 256)) := by
    rw [hg, List.getElem?_range (by omega), Option.map_some, show 7 - (8 - (k + 1)) = k by omega]
  rw [h8, List.take_add_one, h0]
  rfl
theorem pad_length (s : List UInt8) : (pad s).length % 64 = 0 := by
  simp [pad, be8_length]
  omega
end Go.Proofs.YtkihcigojhcmgaaDoor

namespace Go.Proofs.YtkihcigojhcmgaaDoor

/-! ### Integers -/
/-- The number that is encoded for n. -/
def zig (n : Int) : Nat := if n < 0 then (-2 * n - 1).toNat else (2 * n).toNat
/-- Back. -/
def unzig (z : Nat) : Int := if z % 2 = 1 then -((z / 2 : Nat) : Int) - 1 else ((z / 2 : Nat) : Int)

theorem unzig_zig (n : Int) : unzig (zig n) = n := by
  unfold unzig zig
  by_cases h : n < 0
  · rw [if_pos h, if_pos (by omega)]; omega
  · rw [if_neg h, if_neg (by omega)]; omega
theorem zig_unzig (z : Nat) : zig (unzig z) = z := by
  unfold unzig zig
  by_cases h : z % 2 = 1
  · rw [if_pos h, if_pos (by omega)]; omega
  · rw [if_neg h, if_neg (by omega)]; omega

/-- The greatest integer that has an encoding. -/
def big : Int := 4611686018427387903
theorem zig_lt {n : Int} (h0 : -4611686018427387903 ≤ n) (h1 : n ≤ 4611686018427387903) : zig n < 9223372036854775807 := by
  unfold zig; split <;> omega
theorem unzig_hi {z : Nat} (h : z < 9223372036854775808) : -4611686018427387904 ≤ unzig z ∧ unzig z ≤ 4611686018427387903 := by
  unfold unzig; split <;> omega

/-- The groups of seven bits of z, the least one first, at most f of them. -/
def leb : Nat → Nat → List UInt8
  | 0, _ => []
  | f + 1, z => if z < 128 then [UInt8.ofNat z] else UInt8.ofNat (z % 128 + 128) :: leb f (z / 128)

theorem leb_lo (f z : Nat) (h : z < 128) : leb (f + 1) z = [UInt8.ofNat z] := by rw [leb, if_pos h]
theorem leb_hi (f z : Nat) (h : 128 ≤ z) : leb (f + 1) z = UInt8.ofNat (z % 128 + 128) :: leb f (z / 128) := by rw [leb, if_neg (by omega)]

theorem leb_fuel (f : Nat) : ∀ (g z : Nat), z < 128 ^ f → f ≤ g → 1 ≤ f → leb g z = leb f z := by
  induction f with
  | zero => intro g z _ _ h; omega
  | succ f ih =>
    intro g z hz hg _
    obtain ⟨g, rfl⟩ : ∃ g', g = g' + 1 := ⟨g - 1, by omega⟩
    by_cases h : z < 128
    · rw [leb_lo _ _ h, leb_lo _ _ h]
    · rw [leb_hi _ _ (by omega), leb_hi _ _ (by omega)]
      have hf : 1 ≤ f := by
        rcases Nat.eq_zero_or_pos f with rfl | hf
        · simp at hz; omega
        · exact hf
      rw [ih g (z / 128) (by rw [Nat.pow_succ] at hz; omega) (by omega) hf]

theorem leb_len (f : Nat) : ∀ z : Nat, (leb f z).length ≤ f := by
  induction f with
  | zero => intro z; simp [leb]
  | succ f ih => intro z; rw [leb]; split <;> simp; exact ih _
theorem leb_pos (f z : Nat) : 1 ≤ (leb (f + 1) z).length := by rw [leb]; split <;> simp

/-- The encoding of an integer. -/
def enc (n : Int) : List UInt8 := leb 9 (zig n)
theorem enc_len (n : Int) : (enc n).length ≤ 9 := leb_len _ _
theorem enc_pos (n : Int) : 1 ≤ (enc n).length := leb_pos _ _

/-- The loop that reads: i groups were read, which give z; f are left. -/
def scan (s : List UInt8) (k : Nat) : Nat → Nat → Nat → Option (Int × Nat)
  | 0, _, _ => none
  | f + 1, i, z =>
    match s[k + i]? with
    | none => none
    | some b =>
      if 128 ≤ b.toNat then scan s k f (i + 1) (z + b.toNat % 128 * 128 ^ i)
      else if (b.toNat = 0 ∧ 0 < i) ∨ unzig (z + b.toNat % 128 * 128 ^ i) < -4611686018427387903 then none
      else some (unzig (z + b.toNat % 128 * 128 ^ i), k + i + 1)
/-- What the bytes from k on encode, and the place behind it. -/
def readInt (s : List UInt8) (k : Nat) : Option (Int × Nat) := scan s k 9 0 0

theorem scan_out {s : List UInt8} {k i z : Nat} (f : Nat) (h : s.length ≤ k + i) : scan s k (f + 1) i z = none := by
  rw [scan, List.getElem?_eq_none h]
theorem scan_more {s : List UInt8} {k i z : Nat} {b : UInt8} (f : Nat) (h : s[k + i]? = some b) (hb : 128 ≤ b.toNat) : scan s k (f + 1) i z = scan s k f (i + 1) (z + b.toNat % 128 * 128 ^ i) := by
  rw [scan, h]; simp only; rw [if_pos hb]
theorem scan_bad {s : List UInt8} {k i z : Nat} {b : UInt8} (f : Nat) (h : s[k + i]? = some b) (hb : b.toNat < 128) (hx : (b.toNat = 0 ∧ 0 < i) ∨ unzig (z + b.toNat % 128 * 128 ^ i) < -4611686018427387903) : scan s k (f + 1) i z = none := by
  rw [scan, h]; simp only; rw [if_neg (by omega), if_pos hx]
theorem scan_end {s : List UInt8} {k i z : Nat} {b : UInt8} (f : Nat) (h : s[k + i]? = some b) (hb : b.toNat < 128) (hx : ¬ ((b.toNat = 0 ∧ 0 < i) ∨ unzig (z + b.toNat % 128 * 128 ^ i) < -4611686018427387903)) : scan s k (f + 1) i z = some (unzig (z + b.toNat % 128 * 128 ^ i), k + i + 1) := by
  rw [scan, h]; simp only; rw [if_neg (by omega), if_neg hx]

theorem ofNat_toNat8 {x : Nat} (h : x < 256) : (UInt8.ofNat x).toNat = x := by simp; omega

theorem scan_leb (f : Nat) : ∀ (s rest : List UInt8) (k i z y : Nat), y < 128 ^ f → 1 ≤ f → (i = 0 ∨ y ≠ 0) → s.drop (k + i) = leb f y ++ rest →
    scan s k f i z = if unzig (z + y * 128 ^ i) < -4611686018427387903 then none else some (unzig (z + y * 128 ^ i), k + i + (leb f y).length) := by
  induction f with
  | zero => intro s rest k i z y _ h; omega
  | succ f ih =>
    intro s rest k i z y hy _ hi hs
    by_cases h : y < 128
    · rw [leb_lo _ _ h] at hs ⊢
      have hb : s[k + i]? = some (UInt8.ofNat y) := by
        have := congrArg (·[0]?) hs
        simpa using this
      have hv : (UInt8.ofNat y).toNat = y := ofNat_toNat8 (by omega)
      have e : (UInt8.ofNat y).toNat % 128 * 128 ^ i = y * 128 ^ i := by rw [hv, Nat.mod_eq_of_lt h]
      by_cases hx : unzig (z + y * 128 ^ i) < -4611686018427387903
      · rw [if_pos hx, scan_bad f hb (by omega) (.inr (by rw [e]; exact hx))]
      · rw [if_neg hx, scan_end f hb (by omega) (by rw [e, hv]; rintro (⟨a, b⟩ | a); omega; exact hx a), e]; simp
    · rw [leb_hi _ _ (by omega)] at hs ⊢
      have hb : s[k + i]? = some (UInt8.ofNat (y % 128 + 128)) := by
        have := congrArg (·[0]?) hs
        simpa using this
      have hv : (UInt8.ofNat (y % 128 + 128)).toNat = y % 128 + 128 := ofNat_toNat8 (by omega)
      have hs' : s.drop (k + (i + 1)) = leb f (y / 128) ++ rest := by
        have := congrArg (List.drop 1) hs
        rw [List.drop_drop] at this
        rw [← Nat.add_assoc]
        simpa using this
      have hf : 1 ≤ f := by
        rcases Nat.eq_zero_or_pos f with rfl | hf
        · simp at hy; omega
        · exact hf
      have e : z + (UInt8.ofNat (y % 128 + 128)).toNat % 128 * 128 ^ i + y / 128 * 128 ^ (i + 1) = z + y * 128 ^ i := by
        rw [hv, Nat.pow_succ]
        have h1 : (y % 128 + 128) % 128 = y % 128 := by omega
        have h2 : y % 128 + y / 128 * 128 = y := by omega
        rw [h1, Nat.add_assoc, show y / 128 * (128 ^ i * 128) = (y / 128 * 128) * 128 ^ i by rw [Nat.mul_comm (128 ^ i), Nat.mul_assoc], ← Nat.add_mul, h2]
      rw [scan_more f hb (by omega), ih s rest k (i + 1) _ (y / 128) (by rw [Nat.pow_succ] at hy; omega) hf (.inr (by omega)) hs', e]
      simp only [List.length_cons]
      have : k + (i + 1) + (leb f (y / 128)).length = k + i + ((leb f (y / 128)).length + 1) := by omega
      rw [this]

theorem scan_some (f : Nat) : ∀ (s : List UInt8) (k i z : Nat) (n : Int) (next : Nat), scan s k f i z = some (n, next) →
    ∃ (y : Nat) (rest : List UInt8), y < 128 ^ f ∧ (i = 0 ∨ y ≠ 0) ∧ s.drop (k + i) = leb f y ++ rest ∧ n = unzig (z + y * 128 ^ i) ∧ -4611686018427387903 ≤ n ∧ next = k + i + (leb f y).length := by
  induction f with
  | zero => intro s k i z n next h; simp [scan] at h
  | succ f ih =>
    intro s k i z n next h
    rw [scan] at h
    cases hb : s[k + i]? with
    | none => rw [hb] at h; cases h
    | some b =>
      rw [hb] at h
      simp only at h
      have hlt : k + i < s.length := by
        rcases Nat.lt_or_ge (k + i) s.length with h | h
        · exact h
        · rw [List.getElem?_eq_none h] at hb; cases hb
      have hb' : s[k + i] = b := by rw [List.getElem?_eq_getElem hlt] at hb; exact Option.some.inj hb
      have hd : s.drop (k + i) = b :: s.drop (k + (i + 1)) := by rw [List.drop_eq_getElem_cons hlt, hb']; rfl
      have hbl := b.toNat_lt
      by_cases h1 : 128 ≤ b.toNat
      · rw [if_pos h1] at h
        obtain ⟨y, rest, hy, hi, hs, hn, hlo, hnx⟩ := ih s k (i + 1) _ n next h
        have hy0 : y ≠ 0 := by rcases hi with hi | hi; omega; exact hi
        have e0 : (b.toNat % 128 + y * 128) % 128 + 128 = b.toNat := by omega
        have e1 : (b.toNat % 128 + y * 128) / 128 = y := by omega
        have e2 : leb (f + 1) (b.toNat % 128 + y * 128) = b :: leb f y := by
          rw [leb_hi _ _ (by omega), e0, e1]; simp
        refine ⟨b.toNat % 128 + y * 128, rest, by rw [Nat.pow_succ]; omega, .inr (by omega), by rw [hd, hs, e2]; rfl, ?_, hlo, by rw [e2, hnx]; simp; omega⟩
        rw [hn, Nat.pow_succ]
        congr 1
        rw [Nat.add_mul, Nat.add_assoc, Nat.mul_comm (128 ^ i) 128, Nat.mul_assoc]
      · rw [if_neg h1] at h
        by_cases h2 : (b.toNat = 0 ∧ 0 < i) ∨ unzig (z + b.toNat % 128 * 128 ^ i) < -4611686018427387903
        · rw [if_pos h2] at h; cases h
        · rw [if_neg h2] at h
          cases h
          have e2 : leb (f + 1) b.toNat = [b] := by rw [leb_lo _ _ (by omega)]; simp
          have e3 : b.toNat % 128 = b.toNat := by omega
          rw [e3] at h2 ⊢
          refine ⟨b.toNat, s.drop (k + (i + 1)), ?_, by omega, by rw [hd, e2]; rfl, rfl, by omega, by rw [e2]; rfl⟩
          have : 1 ≤ 128 ^ f := Nat.one_le_pow _ _ (by omega)
          rw [Nat.pow_succ]; omega

/-- What stands in a text is read back. -/
theorem readInt_enc {s rest : List UInt8} {k : Nat} {n : Int} (h0 : -4611686018427387903 ≤ n) (h1 : n ≤ 4611686018427387903) (h : s.drop k = enc n ++ rest) : readInt s k = some (n, k + (enc n).length) := by
  have hz := zig_lt h0 h1
  have := scan_leb 9 s rest k 0 0 (zig n) (by omega) (by omega) (.inl rfl) (by simpa [enc] using h)
  rw [readInt, this]
  simp only [Nat.pow_zero, Nat.mul_one, Nat.zero_add, Nat.add_zero, unzig_zig]
  rw [if_neg (by omega)]; rfl
/-- What is read stands there. -/
theorem readInt_some {s : List UInt8} {k : Nat} {n : Int} {next : Nat} (h : readInt s k = some (n, next)) :
    -4611686018427387903 ≤ n ∧ n ≤ 4611686018427387903 ∧ next = k + (enc n).length ∧ ∃ rest, s.drop k = enc n ++ rest := by
  obtain ⟨y, rest, hy, _, hs, hn, hlo, hnx⟩ := scan_some 9 s k 0 0 n next h
  simp only [Nat.pow_zero, Nat.mul_one, Nat.zero_add, Nat.add_zero] at hs hn hnx
  have e : zig n = y := by rw [hn, zig_unzig]
  have := unzig_hi (z := y) (by omega)
  refine ⟨hlo, by omega, by rw [enc, e]; exact hnx, rest, by rw [enc, e]; exact hs⟩
theorem readInt_bounds {s : List UInt8} {k : Nat} {n : Int} {next : Nat} (h : readInt s k = some (n, next)) (hk : k ≤ s.length) : k < next ∧ next ≤ s.length ∧ next ≤ k + 9 := by
  obtain ⟨_, _, hn, rest, hs⟩ := readInt_some h
  have h1 := enc_pos n
  have h2 := enc_len n
  have := congrArg List.length hs
  simp at this
  omega

theorem enc_inj {m n : Int} {r t : List UInt8} (hm0 : -4611686018427387903 ≤ m) (hm1 : m ≤ 4611686018427387903) (hn0 : -4611686018427387903 ≤ n) (hn1 : n ≤ 4611686018427387903) (h : enc m ++ r = enc n ++ t) : m = n := by
  have h1 := readInt_enc (s := enc m ++ r) (rest := r) (k := 0) hm0 hm1 (by simp)
  have h2 := readInt_enc (s := enc m ++ r) (rest := t) (k := 0) hn0 hn1 (by simpa using h)
  rw [h1] at h2
  simp only [Option.some.injEq, Prod.mk.injEq] at h2
  exact h2.1

/-- A proper part of an encoding is none. -/
theorem readInt_part {n : Int} {j : Nat} (h0 : -4611686018427387903 ≤ n) (h1 : n ≤ 4611686018427387903) (hj : j < (enc n).length) : readInt ((enc n).take j) 0 = none := by
  cases hr : readInt ((enc n).take j) 0 with
  | none => rfl
  | some p =>
    obtain ⟨m, next⟩ := p
    obtain ⟨m0, m1, hnx, rest, hs⟩ := readInt_some hr
    have hb := readInt_bounds hr (by simp)
    have hs' : enc n = enc m ++ (rest ++ (enc n).drop j) := by
      have := List.take_append_drop j (enc n)
      rw [List.drop_zero] at hs
      rw [hs] at this
      rw [← List.append_assoc]; exact this.symm
    have e : n = m := enc_inj (r := []) h0 h1 m0 m1 (by simpa using hs')
    subst e
    have := hb.2.1
    simp at this
    omega

/-! ### Strings -/
/-- The encoding of a string. -/
def encS (t : List UInt8) : List UInt8 := enc t.length ++ t
/-- The string that the bytes from k on encode, and the place behind it. -/
def readStr (s : List UInt8) (k : Nat) : Option (List UInt8 × Nat) :=
  match readInt s k with
  | none => none
  | some (n, next) => if n < 0 ∨ 65536 < n ∨ (s.length : Int) - next < n then none else some ((s.drop next).take n.toNat, next + n.toNat)

theorem readStr_enc {s rest t : List UInt8} {k : Nat} (ht : t.length ≤ 65536) (h : s.drop k = encS t ++ rest) : readStr s k = some (t, k + (encS t).length) := by
  unfold encS at h ⊢
  have hi := readInt_enc (n := t.length) (by omega) (by omega) (by rw [h, List.append_assoc])
  have hl := congrArg List.length h
  simp at hl
  have hp := enc_pos t.length
  rw [readStr, hi]
  simp only
  rw [if_neg (by omega)]
  have hd : s.drop (k + (enc t.length).length) = t ++ rest := by
    rw [← List.drop_drop, h, List.append_assoc, List.drop_left]
  rw [hd]
  simp [Nat.add_assoc]
theorem readStr_some {s t : List UInt8} {k next : Nat} (hk : k ≤ s.length) (h : readStr s k = some (t, next)) : t.length ≤ 65536 ∧ next = k + (encS t).length ∧ next ≤ s.length ∧ ∃ rest, s.drop k = encS t ++ rest := by
  rw [readStr] at h
  cases hr : readInt s k with
  | none => rw [hr] at h; cases h
  | some p =>
    obtain ⟨n, nx⟩ := p
    rw [hr] at h
    simp only at h
    obtain ⟨_, _, hnx, rest, hs⟩ := readInt_some hr
    have hb := readInt_bounds hr hk
    by_cases hc : n < 0 ∨ 65536 < n ∨ (s.length : Int) - nx < n
    · rw [if_pos hc] at h; cases h
    · rw [if_neg hc] at h
      simp only [Option.some.injEq, Prod.mk.injEq] at h
      obtain ⟨ht, hn⟩ := h
      have hl : t.length = n.toNat := by rw [← ht]; simp; omega
      have e : ((t.length : Nat) : Int) = n := by omega
      have hd : s.drop nx = rest := by rw [hnx, ← List.drop_drop, hs, List.drop_left]
      refine ⟨by omega, ?_, by omega, rest.drop n.toNat, ?_⟩
      · simp only [encS, List.length_append, e]; omega
      · rw [hs, encS, e, List.append_assoc, ← ht, hd, List.take_append_drop]
theorem encS_len (t : List UInt8) : (encS t).length ≤ t.length + 9 := by have := enc_len t.length; simp [encS]; omega
theorem encS_pos (t : List UInt8) : 1 ≤ (encS t).length := by have := enc_pos t.length; simp [encS]; omega
/-- A proper part of an encoding of a string is none. -/
theorem readStr_part {t : List UInt8} {j : Nat} (ht : t.length ≤ 65536) (hj : j < (encS t).length) : readStr ((encS t).take j) 0 = none := by
  cases hr : readStr ((encS t).take j) 0 with
  | none => rfl
  | some p =>
    obtain ⟨u, next⟩ := p
    obtain ⟨hu, hnx, hle, rest, hs⟩ := readStr_some (by omega) hr
    rw [List.drop_zero] at hs
    have h1 : encS t = encS u ++ (rest ++ (encS t).drop j) := by
      have := List.take_append_drop j (encS t)
      rw [hs] at this
      rw [← List.append_assoc]; exact this.symm
    have h2 := readStr_enc (s := encS t) (rest := []) (k := 0) ht (by simp)
    have h3 := readStr_enc (s := encS t) (rest := rest ++ (encS t).drop j) (k := 0) hu (by simpa using h1)
    rw [h2] at h3
    simp only [Option.some.injEq, Prod.mk.injEq] at h3
    rw [← h3.1] at hnx
    simp at hle
    omega
end Go.Proofs.YtkihcigojhcmgaaDoor

namespace Go.Proofs.YtkihcigojhcmgaaDoor

/-- A stamp. -/
structure Stp where
  day : Int
  hash : Int
  wit : Int
  val : List UInt8
/-- A break. -/
structure Brk where
  hash : Int
  wit : Int
  frm : Int
  known : Int
instance : Inhabited Stp := ⟨⟨0, 0, 0, []⟩⟩
instance : Inhabited Brk := ⟨⟨0, 0, 0, 0⟩⟩

/-- How many of the eight witnesses a set has. -/
def popc (t : Nat) : Nat := t % 2 + t / 2 % 2 + t / 4 % 2 + t / 8 % 2 + t / 16 % 2 + t / 32 % 2 + t / 64 % 2 + t / 128 % 2
def valid (s : Stp) : Bool := decide (0 ≤ s.day ∧ s.day ≤ 100000 ∧ 0 ≤ s.hash ∧ s.hash ≤ 7 ∧ 0 ≤ s.wit ∧ s.wit < 256 ∧ 2 ≤ popc s.wit.toNat)
theorem valid_iff (s : Stp) : valid s = true ↔ 0 ≤ s.day ∧ s.day ≤ 100000 ∧ 0 ≤ s.hash ∧ s.hash ≤ 7 ∧ 0 ≤ s.wit ∧ s.wit < 256 ∧ 2 ≤ popc s.wit.toNat := by simp [valid]
def nums (s : Stp) : List UInt8 := (enc s.day ++ enc s.hash) ++ enc s.wit
def hashV (k : Int) (s : List UInt8) : List UInt8 := if 0 ≤ k ∧ k ≤ 7 then sha (UInt8.ofNat k.toNat :: s) else []
def part (s : Stp) : List UInt8 := nums s ++ encS s.val
def cov (v : List UInt8) (l : List Stp) : List UInt8 := encS v ++ (l.map part).flatten
def okS (s : Stp) : Bool := valid s && decide (s.val.length = 32)
def chk : List UInt8 → Int → List Stp → Bool
  | _, _, [] => true
  | pre, last, s :: l => okS s && decide (last ≤ s.day) && decide (s.val = hashV s.hash (pre ++ nums s)) && chk (pre ++ part s) s.day l
def check (l : List Stp) (v : List UInt8) : Bool := decide (l ≠ []) && chk (encS v) 0 l
def lastDay (d : Int) (l : List Stp) : Int := (l.getLast?.map Stp.day).getD d
def sealed (l : List Stp) (v : List UInt8) (s : Stp) : Stp := { s with val := hashV s.hash (cov v l ++ nums s) }
def canNext (l : List Stp) (s : Stp) : Bool := valid s && decide (lastDay 0 l ≤ s.day)
def next (l : List Stp) (v : List UInt8) (s : Stp) : Option (List Stp) := if canNext l s then some (l ++ [sealed l v s]) else none
def renew (l : List Stp) (v : List UInt8) (s : Stp) : Option (List Stp) := if check l v then next l v s else none
def start (v : List UInt8) (s : Stp) : Option (List Stp) := next [] v s

/-- A break that counts on a day, by what was known on another day. -/
def live (known day : Int) (b : Brk) : Bool := decide (b.known ≤ known ∧ b.frm ≤ day ∧ 0 ≤ b.wit ∧ b.wit ≤ 8)
def hashGone (h : Int) (bs : List Brk) (known day : Int) : Bool := bs.any fun b => live known day b && decide (b.wit = 0 ∧ b.hash = h)
def witGone (w : Int) (bs : List Brk) (known day : Int) : Bool := bs.any fun b => live known day b && decide (b.wit = w)
def witOk (t : Nat) (bs : List Brk) (known day : Int) (i : Nat) : Nat := if t / 2 ^ i % 2 = 1 ∧ witGone ((i : Int) + 1) bs known day = false then 1 else 0
def witSum (t : Nat) (bs : List Brk) (known day : Int) : Nat → Nat
  | 0 => 0
  | i + 1 => witSum t bs known day i + witOk t bs known day i
def good (s : Stp) (bs : List Brk) (known day : Int) : Bool := valid s && !hashGone s.hash bs known day && decide (2 ≤ witSum s.wit.toNat bs known day 8)
def back (bs : List Brk) (known : Int) : Int → Option Int → List Stp → Option Int
  | _, acc, [] => acc
  | u, acc, s :: r => if good s bs known u then back bs known s.day (some s.day) r else acc
def upto (day : Int) (l : List Stp) : List Stp := l.takeWhile fun s => decide (s.day ≤ day)
def since (l : List Stp) (v : List UInt8) (bs : List Brk) (day : Int) : Option Int := if check l v then back bs day day none (upto day l).reverse else none
def dueF (s : Stp) (bs : List Brk) (day : Int) (d : Int) (b : Brk) : Int := if day < b.frm ∧ b.frm ≤ 100000 ∧ good s bs day b.frm = false then min d (b.frm - 1) else d
def dueOf (s : Stp) (bs : List Brk) (day : Int) : Int := bs.foldl (dueF s bs day) 100000
def due (l : List Stp) (bs : List Brk) (day : Int) : Option Int := match l.getLast? with
  | none => none
  | some s => if day ≤ 100000 ∧ good s bs day day = true then some (dueOf s bs day) else none

/-! ### Evidence -/
theorem okS_iff (s : Stp) : okS s = true ↔ valid s = true ∧ s.val.length = 32 := by simp [okS]
theorem outW_length (h : List Nat) : (outW h).length = 32 := by simp [outW]
theorem sha_length (s : List UInt8) : (sha s).length = 32 := outW_length _
theorem hashV_length {k : Int} (h0 : 0 ≤ k) (h1 : k ≤ 7) (s : List UInt8) : (hashV k s).length = 32 := by rw [hashV, if_pos ⟨h0, h1⟩, sha_length]
theorem lastDay_nil (d : Int) : lastDay d [] = d := rfl
theorem lastDay_snoc (d : Int) (l : List Stp) (s : Stp) : lastDay d (l ++ [s]) = s.day := by simp [lastDay]
theorem lastDay_cons (d : Int) (s : Stp) (l : List Stp) : lastDay d (s :: l) = lastDay s.day l := by
  cases l with
  | nil => rfl
  | cons a l =>
    have h : (a :: l).getLast? = some ((a :: l).getLast (by simp)) := List.getLast?_eq_some_getLast (by simp)
    unfold lastDay
    rw [List.getLast?_cons_cons, h]; rfl
theorem chk_cons (pre : List UInt8) (last : Int) (s : Stp) (l : List Stp) : chk pre last (s :: l) = true ↔ okS s = true ∧ last ≤ s.day ∧ s.val = hashV s.hash (pre ++ nums s) ∧ chk (pre ++ part s) s.day l = true := by
  simp [chk, and_assoc]
theorem chk_snoc (l : List Stp) (s : Stp) : ∀ (pre : List UInt8) (last : Int), chk pre last (l ++ [s]) = true ↔ chk pre last l = true ∧ okS s = true ∧ lastDay last l ≤ s.day ∧ s.val = hashV s.hash ((pre ++ (l.map part).flatten) ++ nums s) := by
  induction l with
  | nil => intro pre last; simp [chk, lastDay, and_assoc]
  | cons a l ih =>
    intro pre last
    rw [List.cons_append, chk_cons, chk_cons, ih, lastDay_cons]
    simp only [List.map_cons, List.flatten_cons, List.append_assoc, and_assoc]
theorem chk_ok {l : List Stp} : ∀ {pre : List UInt8} {last : Int}, chk pre last l = true → ∀ s ∈ l, okS s = true := by
  induction l with
  | nil => intro _ _ _ s hs; cases hs
  | cons a l ih =>
    intro pre last h s hs
    rw [chk_cons] at h
    rcases List.mem_cons.1 hs with rfl | hs
    · exact h.1
    · exact ih h.2.2.2 s hs
theorem chk_from {l : List Stp} : ∀ {pre : List UInt8} {last : Int}, chk pre last l = true → ∀ s ∈ l, last ≤ s.day := by
  induction l with
  | nil => intro _ _ _ s hs; cases hs
  | cons a l ih =>
    intro pre last h s hs
    rw [chk_cons] at h
    rcases List.mem_cons.1 hs with rfl | hs
    · exact h.2.1
    · exact Int.le_trans h.2.1 (ih h.2.2.2 s hs)
theorem chk_last {l : List Stp} {pre : List UInt8} {last : Int} (h : chk pre last l = true) : last ≤ lastDay last l := by
  cases hl : l.getLast? with
  | none => simp [lastDay, hl]
  | some s =>
    have := chk_from h s (List.mem_of_getLast? hl)
    simpa [lastDay, hl] using this
theorem chk_sorted {l : List Stp} : ∀ {pre : List UInt8} {last : Int}, chk pre last l = true → l.Pairwise fun a b => a.day ≤ b.day := by
  induction l with
  | nil => intro _ _ _; exact List.Pairwise.nil
  | cons a l ih =>
    intro pre last h
    rw [chk_cons] at h
    exact List.Pairwise.cons (fun b hb => chk_from h.2.2.2 b hb) (ih h.2.2.2)
theorem check_iff (l : List Stp) (v : List UInt8) : check l v = true ↔ l ≠ [] ∧ chk (encS v) 0 l = true := by simp [check]
theorem valid_sealed {l : List Stp} {v : List UInt8} {s : Stp} : valid (sealed l v s) = valid s := rfl
theorem canNext_iff (l : List Stp) (s : Stp) : canNext l s = true ↔ valid s = true ∧ lastDay 0 l ≤ s.day := by simp [canNext]
theorem okS_sealed {l : List Stp} {v : List UInt8} {s : Stp} (h : valid s = true) : okS (sealed l v s) = true := by
  obtain ⟨_, _, h0, h1, _⟩ := (valid_iff s).1 h
  exact (okS_iff _).2 ⟨h, hashV_length h0 h1 _⟩
theorem nums_sealed {l : List Stp} {v : List UInt8} {s : Stp} : nums (sealed l v s) = nums s := rfl
/-- What is added to evidence, or to nothing, is evidence. -/
theorem check_next {l : List Stp} {v : List UInt8} {s : Stp} (hl : l = [] ∨ check l v = true) (h : canNext l s = true) : check (l ++ [sealed l v s]) v = true := by
  obtain ⟨h1, h2⟩ := (canNext_iff l s).1 h
  rw [check_iff]
  refine ⟨by simp, (chk_snoc _ _ _ _).2 ⟨?_, okS_sealed h1, h2, by rw [nums_sealed]; rfl⟩⟩
  rcases hl with rfl | hl
  · rfl
  · exact ((check_iff _ _).1 hl).2

/-! ### Days -/
theorem live_iff (known day : Int) (b : Brk) : live known day b = true ↔ b.known ≤ known ∧ b.frm ≤ day ∧ 0 ≤ b.wit ∧ b.wit ≤ 8 := by simp [live]
theorem any_mono {α : Type} {p q : α → Bool} {l m : List α} (hs : ∀ x ∈ l, p x = true → x ∈ m ∧ q x = true) (h : l.any p = true) : m.any q = true := by
  obtain ⟨x, hx, hp⟩ := List.any_eq_true.1 h
  obtain ⟨h1, h2⟩ := hs x hx hp
  exact List.any_eq_true.2 ⟨x, h1, h2⟩
/-- What counts here counts there. -/
def Covers (bs cs : List Brk) (k u k' u' : Int) : Prop := ∀ b ∈ bs, live k u b = true → b ∈ cs ∧ live k' u' b = true
theorem hashGone_mono {h : Int} {bs cs : List Brk} {k u k' u' : Int} (hc : Covers bs cs k u k' u') (hg : hashGone h bs k u = true) : hashGone h cs k' u' = true := by
  refine any_mono (fun b hb hp => ?_) hg
  simp only [Bool.and_eq_true] at hp ⊢
  exact ⟨(hc b hb hp.1).1, (hc b hb hp.1).2, hp.2⟩
theorem witGone_mono {h : Int} {bs cs : List Brk} {k u k' u' : Int} (hc : Covers bs cs k u k' u') (hg : witGone h bs k u = true) : witGone h cs k' u' = true := by
  refine any_mono (fun b hb hp => ?_) hg
  simp only [Bool.and_eq_true] at hp ⊢
  exact ⟨(hc b hb hp.1).1, (hc b hb hp.1).2, hp.2⟩
theorem witOk_mono {t : Nat} {bs cs : List Brk} {k u k' u' : Int} (hc : Covers bs cs k u k' u') (i : Nat) : witOk t cs k' u' i ≤ witOk t bs k u i := by
  unfold witOk
  by_cases h : t / 2 ^ i % 2 = 1 ∧ witGone ((i : Int) + 1) cs k' u' = false
  · have h2 : witGone ((i : Int) + 1) bs k u = false := by
      cases hw : witGone ((i : Int) + 1) bs k u with
      | false => rfl
      | true => rw [witGone_mono hc hw] at h; exact absurd h.2 (by simp)
    rw [if_pos h, if_pos ⟨h.1, h2⟩]; exact Nat.le_refl _
  · rw [if_neg h]; exact Nat.zero_le _
theorem witSum_mono {t : Nat} {bs cs : List Brk} {k u k' u' : Int} (hc : Covers bs cs k u k' u') (n : Nat) : witSum t cs k' u' n ≤ witSum t bs k u n := by
  induction n with
  | zero => exact Nat.le_refl _
  | succ n ih => exact Nat.add_le_add ih (witOk_mono hc n)
theorem good_iff (s : Stp) (bs : List Brk) (k u : Int) : good s bs k u = true ↔ valid s = true ∧ hashGone s.hash bs k u = false ∧ 2 ≤ witSum s.wit.toNat bs k u 8 := by simp [good, and_assoc]
/-- The fewer breaks count, the longer a stamp is good. -/
theorem good_mono {s : Stp} {bs cs : List Brk} {k u k' u' : Int} (hc : Covers bs cs k u k' u') (hg : good s cs k' u' = true) : good s bs k u = true := by
  obtain ⟨h1, h2, h3⟩ := (good_iff _ _ _ _).1 hg
  refine (good_iff _ _ _ _).2 ⟨h1, ?_, Nat.le_trans h3 (witSum_mono hc 8)⟩
  cases hh : hashGone s.hash bs k u with
  | false => rfl
  | true => rw [hashGone_mono hc hh] at h2; exact absurd h2 (by simp)
theorem good_same {s : Stp} {bs cs : List Brk} {k u k' u' : Int} (h1 : Covers bs cs k u k' u') (h2 : Covers cs bs k' u' k u) : good s bs k u = good s cs k' u' := by
  rw [Bool.eq_iff_iff]; exact ⟨good_mono h2, good_mono h1⟩
theorem good_day {s : Stp} {bs : List Brk} {k u u' : Int} (h : u ≤ u') (hg : good s bs k u' = true) : good s bs k u = true :=
  good_mono (fun b hb hl => ⟨hb, by rw [live_iff] at hl ⊢; omega⟩) hg
theorem good_known {s : Stp} {bs : List Brk} {k k' u : Int} (hk : ∀ b ∈ bs, b.known ≤ k) (hk' : ∀ b ∈ bs, b.known ≤ k') : good s bs k u = good s bs k' u :=
  good_same (fun b hb hl => ⟨hb, by have := hk' b hb; rw [live_iff] at hl ⊢; omega⟩) (fun b hb hl => ⟨hb, by have := hk b hb; rw [live_iff] at hl ⊢; omega⟩)
/-- Between the days of breaks nothing is turned. -/
theorem good_stays {s : Stp} {bs : List Brk} {k u : Int} (hu : good s bs k u = true) : ∀ (n : Nat), (∀ b ∈ bs, u < b.frm → b.frm ≤ u + n → good s bs k b.frm = true) → good s bs k (u + n) = true := by
  intro n
  induction n with
  | zero => intro _; simpa using hu
  | succ n ih =>
    intro h
    have h0 := ih fun b hb h1 h2 => h b hb h1 (by omega)
    by_cases hb : ∃ b ∈ bs, b.frm = u + (n + 1 : Nat)
    · obtain ⟨b, hb, he⟩ := hb
      rw [← he]; exact h b hb (by omega) (by omega)
    · refine good_mono (k' := k) (u' := u + n) (fun b hb' hl => ⟨hb', ?_⟩) h0
      rw [live_iff] at hl ⊢
      have : b.frm ≠ u + (n + 1 : Nat) := fun e => hb ⟨b, hb', e⟩
      omega
theorem dueF_le (s : Stp) (bs : List Brk) (day d : Int) (b : Brk) : dueF s bs day d b ≤ d := by unfold dueF; split <;> omega
theorem due_fold (s : Stp) (bs : List Brk) (day : Int) (cs : List Brk) : ∀ d : Int, day ≤ d → d ≤ 100000 →
    day ≤ cs.foldl (dueF s bs day) d ∧ cs.foldl (dueF s bs day) d ≤ d ∧
    (∀ b ∈ cs, day < b.frm → b.frm ≤ 100000 → good s bs day b.frm = false → cs.foldl (dueF s bs day) d ≤ b.frm - 1) ∧
    (cs.foldl (dueF s bs day) d = d ∨ ∃ b ∈ cs, day < b.frm ∧ good s bs day b.frm = false ∧ cs.foldl (dueF s bs day) d = b.frm - 1) := by
  induction cs with
  | nil => intro d h0 h1; exact ⟨h0, Int.le_refl _, (fun b hb => by cases hb), .inl rfl⟩
  | cons c cs ih =>
    intro d h0 h1
    rw [List.foldl_cons]
    have hle := dueF_le s bs day d c
    have hge : day ≤ dueF s bs day d c := by unfold dueF; split <;> omega
    obtain ⟨i1, i2, i3, i4⟩ := ih (dueF s bs day d c) hge (by omega)
    refine ⟨i1, by omega, ?_, ?_⟩
    · intro b hb hb1 hb2 hb3
      rcases List.mem_cons.1 hb with rfl | hb
      · have : dueF s bs day d b ≤ b.frm - 1 := by unfold dueF; rw [if_pos ⟨hb1, hb2, hb3⟩]; omega
        omega
      · exact i3 b hb hb1 hb2 hb3
    · rcases i4 with i4 | ⟨b, hb, hb1, hb2, hb3⟩
      · by_cases hc : day < c.frm ∧ c.frm ≤ 100000 ∧ good s bs day c.frm = false
        · have e : dueF s bs day d c = min d (c.frm - 1) := by unfold dueF; rw [if_pos hc]
          rcases Int.le_total d (c.frm - 1) with h | h
          · left; rw [i4, e]; omega
          · right; exact ⟨c, by simp, hc.1, hc.2.2, by rw [i4, e]; omega⟩
        · have e : dueF s bs day d c = d := by unfold dueF; rw [if_neg hc]
          left; rw [i4, e]
      · right; exact ⟨b, by simp [hb], hb1, hb2, hb3⟩
/-- What the last day is. -/
theorem dueOf_spec {s : Stp} {bs : List Brk} {day : Int} (h1 : day ≤ 100000) (hg : good s bs day day = true) :
    day ≤ dueOf s bs day ∧ dueOf s bs day ≤ 100000 ∧ good s bs day (dueOf s bs day) = true ∧ (dueOf s bs day = 100000 ∨ good s bs day (dueOf s bs day + 1) = false) := by
  obtain ⟨i1, i2, i3, i4⟩ := due_fold s bs day bs 100000 h1 (Int.le_refl _)
  change day ≤ dueOf s bs day at i1
  change dueOf s bs day ≤ 100000 at i2
  refine ⟨i1, i2, ?_, ?_⟩
  · have := good_stays hg (dueOf s bs day - day).toNat ?_
    · rwa [show day + ((dueOf s bs day - day).toNat : Int) = dueOf s bs day by omega] at this
    · intro b hb hb1 hb2
      cases hx : good s bs day b.frm with
      | true => rfl
      | false =>
        have := i3 b hb hb1 (by omega) hx
        change dueOf s bs day ≤ b.frm - 1 at this
        omega
  · rcases i4 with i4 | ⟨b, _, _, hb2, hb3⟩
    · exact .inl i4
    · right
      change dueOf s bs day = b.frm - 1 at hb3
      rw [hb3, show b.frm - 1 + 1 = b.frm by omega]; exact hb2
end Go.Proofs.YtkihcigojhcmgaaDoor

namespace Go.Proofs.YtkihcigojhcmgaaDoor

theorem witGone_snoc (x : Int) (bs : List Brk) (b : Brk) (k u : Int) : witGone x (bs ++ [b]) k u = (witGone x bs k u || (live k u b && decide (b.wit = x))) := by simp [witGone]
theorem hashGone_snoc (h : Int) (bs : List Brk) (b : Brk) (k u : Int) : hashGone h (bs ++ [b]) k u = (hashGone h bs k u || (live k u b && decide (b.wit = 0 ∧ b.hash = h))) := by simp [hashGone]
/-- T holds the witnesses of t that no break of bs concerns. -/
def Left (T t : Nat) (bs : List Brk) (k u : Int) : Prop := T < 256 ∧ ∀ i, i < 8 → T / 2 ^ i % 2 = witOk t bs k u i
theorem popc_bits (T : Nat) : popc T = T / 2 ^ 0 % 2 + T / 2 ^ 1 % 2 + T / 2 ^ 2 % 2 + T / 2 ^ 3 % 2 + T / 2 ^ 4 % 2 + T / 2 ^ 5 % 2 + T / 2 ^ 6 % 2 + T / 2 ^ 7 % 2 := by simp [popc]
theorem Left.popc {T t : Nat} {bs : List Brk} {k u : Int} (h : Left T t bs k u) : popc T = witSum t bs k u 8 := by
  rw [popc_bits, h.2 0 (by omega), h.2 1 (by omega), h.2 2 (by omega), h.2 3 (by omega), h.2 4 (by omega), h.2 5 (by omega), h.2 6 (by omega), h.2 7 (by omega)]
  simp [witSum]
theorem witOk_nil (t : Nat) (k u : Int) (i : Nat) : witOk t [] k u i = t / 2 ^ i % 2 := by
  unfold witOk
  simp only [witGone, List.any_nil, and_true]
  split
  · omega
  · omega
theorem Left.start {t : Nat} (h : t < 256) (k u : Int) : Left t t [] k u := ⟨h, fun i _ => (witOk_nil t k u i).symm⟩
theorem drop_bit : ∀ (T : Fin 256) (i j : Fin 8), T.val / 2 ^ i.val % 2 = 1 → (T.val - 2 ^ i.val) / 2 ^ j.val % 2 = if j = i then 0 else T.val / 2 ^ j.val % 2 := by decide +kernel
theorem bit_le {T i : Nat} (h : T / 2 ^ i % 2 = 1) : 2 ^ i ≤ T := by
  rcases Nat.lt_or_ge T (2 ^ i) with h1 | h1
  · rw [Nat.div_eq_of_lt h1] at h; omega
  · exact h1
theorem witOk_le (t : Nat) (bs : List Brk) (k u : Int) (i : Nat) : witOk t bs k u i ≤ 1 := by unfold witOk; split <;> omega
/-- A break that does not concern a witness. -/
theorem Left.keep {T t : Nat} {bs : List Brk} {k u : Int} (h : Left T t bs k u) (b : Brk) (hb : live k u b = false ∨ b.wit = 0) : Left T t (bs ++ [b]) k u := by
  refine ⟨h.1, fun i hi => ?_⟩
  rw [h.2 i hi]
  unfold witOk
  rw [witGone_snoc]
  have : (live k u b && decide (b.wit = (i : Int) + 1)) = false := by
    rcases hb with hb | hb
    · rw [hb]; rfl
    · have : ¬ (b.wit = (i : Int) + 1) := by omega
      simp [this]
  rw [this, Bool.or_false]
/-- A break that concerns a witness that is not there. -/
theorem Left.skip {T t : Nat} {bs : List Brk} {k u : Int} (h : Left T t bs k u) (b : Brk) (q : Nat) (hq : q < 8) (hb : b.wit = (q : Int) + 1) (hT : T / 2 ^ q % 2 ≠ 1) : Left T t (bs ++ [b]) k u := by
  refine ⟨h.1, fun i hi => ?_⟩
  by_cases hiq : i = q
  · subst hiq
    have h1 := h.2 i hi
    have h2 := witOk_le t bs k u i
    have h0 : witOk t bs k u i = 0 := by omega
    rw [h1, h0]
    unfold witOk at h0 ⊢
    rw [if_neg]
    rintro ⟨h3, h4⟩
    rw [witGone_snoc, Bool.or_eq_false_iff] at h4
    rw [if_pos ⟨h3, h4.1⟩] at h0
    omega
  · rw [h.2 i hi]
    unfold witOk
    rw [witGone_snoc]
    have : ¬ (b.wit = (i : Int) + 1) := by omega
    simp [this]
/-- A break that concerns a witness that is there. -/
theorem Left.drop {T t : Nat} {bs : List Brk} {k u : Int} (h : Left T t bs k u) (b : Brk) (hl : live k u b = true) (q : Nat) (hq : q < 8) (hb : b.wit = (q : Int) + 1) (hT : T / 2 ^ q % 2 = 1) : Left (T - 2 ^ q) t (bs ++ [b]) k u := by
  refine ⟨Nat.lt_of_le_of_lt (Nat.sub_le _ _) h.1, fun i hi => ?_⟩
  have hd := drop_bit ⟨T, h.1⟩ ⟨q, hq⟩ ⟨i, hi⟩ hT
  simp only at hd
  rw [hd]
  by_cases hiq : i = q
  · subst hiq
    rw [if_pos rfl]
    unfold witOk
    rw [if_neg]
    rintro ⟨-, h4⟩
    rw [witGone_snoc, hl] at h4
    simp [hb] at h4
  · rw [if_neg (by simp [hiq]), h.2 i hi]
    unfold witOk
    rw [witGone_snoc]
    have : ¬ (b.wit = (i : Int) + 1) := by omega
    simp [this]
theorem good_left {s : Stp} {bs : List Brk} {k u : Int} {T : Nat} (hv : valid s = true) (hh : hashGone s.hash bs k u = false) (h : Left T s.wit.toNat bs k u) : good s bs k u = decide (2 ≤ (popc T : Int)) := by
  rw [Bool.eq_iff_iff, good_iff, decide_eq_true_iff, h.popc]
  constructor
  · intro h; have := h.2.2; omega
  · intro h; exact ⟨hv, hh, by omega⟩
theorem hashGone_take {h : Int} {bs : List Brk} {k u : Int} {j : Nat} (hg : hashGone h (bs.take j) k u = true) : hashGone h bs k u = true :=
  any_mono (fun _ hx hp => ⟨List.mem_of_mem_take hx, hp⟩) hg
theorem good_hash {s : Stp} {bs : List Brk} {k u : Int} (h : hashGone s.hash bs k u = true) : good s bs k u = false := by
  cases hg : good s bs k u with
  | false => rfl
  | true => have := ((good_iff _ _ _ _).1 hg).2.1; rw [h] at this; cases this
theorem good_invalid {s : Stp} {bs : List Brk} {k u : Int} (h : valid s = false) : good s bs k u = false := by simp [good, h]
theorem live_not {k u : Int} {b : Brk} (h : k < b.known ∨ u < b.frm ∨ b.wit < 0 ∨ 8 < b.wit) : live k u b = false := by
  cases hl : live k u b with
  | false => rfl
  | true => rw [live_iff] at hl; omega
end Go.Proofs.YtkihcigojhcmgaaDoor

namespace Go.Proofs.YtkihcigojhcmgaaDoor

/-- The place of a break: hash functions at 0 to 7, witnesses at 9 to 16. -/
def place (b : Brk) : Option Nat := if b.wit = 0 then (if 0 ≤ b.hash ∧ b.hash ≤ 7 then some b.hash.toNat else none) else if 1 ≤ b.wit ∧ b.wit ≤ 8 then some (8 + b.wit.toNat) else none
def froms (bs : List Brk) (known : Int) (k : Nat) : List Int := (bs.filter fun b => decide (b.known ≤ known) && decide (place b = some k)).map Brk.frm
theorem froms_nil (known : Int) (k : Nat) : froms [] known k = [] := rfl
theorem froms_snoc (bs : List Brk) (b : Brk) (known : Int) (k : Nat) : froms (bs ++ [b]) known k = froms bs known k ++ if b.known ≤ known ∧ place b = some k then [b.frm] else [] := by
  unfold froms
  rw [List.filter_append, List.map_append]
  congr 1
  by_cases h : b.known ≤ known ∧ place b = some k
  · rw [if_pos h]; simp [h.1, h.2]
  · rw [if_neg h]
    have : (decide (b.known ≤ known) && decide (place b = some k)) = false := by
      cases hh : (decide (b.known ≤ known) && decide (place b = some k)) with
      | false => rfl
      | true => simp at hh; exact absurd hh h
    simp [this]
theorem froms_len (bs : List Brk) (known : Int) (k : Nat) : (froms bs known k).length ≤ bs.length := by
  unfold froms
  rw [List.length_map]
  exact List.length_filter_le _ _
theorem froms_any (bs : List Brk) (known day : Int) (k : Nat) : ((froms bs known k).any fun f => decide (f ≤ day)) = bs.any fun b => decide (b.known ≤ known) && decide (place b = some k) && decide (b.frm ≤ day) := by
  unfold froms
  rw [List.any_map, List.any_filter]
  rfl
theorem any_same {α : Type} {p q : α → Bool} (l : List α) (h : ∀ x, p x = q x) : l.any p = l.any q := by rw [show p = q from funext h]
theorem place_is_hash (b : Brk) (h : Int) (h0 : 0 ≤ h) (h1 : h ≤ 7) : place b = some h.toNat ↔ b.wit = 0 ∧ b.hash = h := by
  unfold place
  constructor
  · intro h3
    split at h3
    · split at h3
      · injection h3 with h3; omega
      · cases h3
    · split at h3
      · injection h3 with h3; omega
      · cases h3
  · rintro ⟨h6, h7⟩
    rw [if_pos h6, if_pos (by omega), h7]
theorem place_is_wit (b : Brk) (x : Nat) (h0 : 1 ≤ x) (h1 : x ≤ 8) : place b = some (8 + x) ↔ b.wit = (x : Int) := by
  unfold place
  constructor
  · intro h3
    split at h3
    · split at h3
      · injection h3 with h3; omega
      · cases h3
    · split at h3
      · injection h3 with h3; omega
      · cases h3
  · intro h6
    rw [if_neg (by omega), if_pos (by omega), h6]; simp
theorem froms_hash (bs : List Brk) (known day h : Int) (h0 : 0 ≤ h) (h1 : h ≤ 7) : ((froms bs known h.toNat).any fun f => decide (f ≤ day)) = hashGone h bs known day := by
  rw [froms_any]
  refine any_same _ fun b => ?_
  rw [Bool.eq_iff_iff]
  simp only [live, Bool.and_eq_true, decide_eq_true_eq]
  rw [place_is_hash b h h0 h1]
  omega
theorem froms_wit (bs : List Brk) (known day : Int) (x : Nat) (h0 : 1 ≤ x) (h1 : x ≤ 8) : ((froms bs known (8 + x)).any fun f => decide (f ≤ day)) = witGone (x : Int) bs known day := by
  rw [froms_any]
  refine any_same _ fun b => ?_
  rw [Bool.eq_iff_iff]
  simp only [live, Bool.and_eq_true, decide_eq_true_eq]
  rw [place_is_wit b x h0 h1]
  omega
theorem place_hash {b : Brk} (h : b.wit = 0) (q : Nat) (hq : q ≤ 7) (hb : b.hash = q) : place b = some q := by
  unfold place; rw [if_pos h, if_pos (by omega), hb]; simp
theorem place_wit {b : Brk} (q : Nat) (h0 : 1 ≤ q) (h1 : q ≤ 8) (hb : b.wit = q) : place b = some (8 + q) := by
  unfold place; rw [if_neg (by omega), if_pos (by omega), hb]; simp
theorem place_none {b : Brk} (h : ¬ (b.wit = 0 ∧ 0 ≤ b.hash ∧ b.hash ≤ 7)) (h2 : ¬ (1 ≤ b.wit ∧ b.wit ≤ 8)) : place b = none := by
  unfold place
  by_cases h0 : b.wit = 0
  · rw [if_pos h0, if_neg (fun hh => h ⟨h0, hh⟩)]
  · rw [if_neg h0, if_neg h2]
theorem froms_late {bs : List Brk} {b : Brk} {known : Int} (h : known < b.known) (k : Nat) : froms (bs ++ [b]) known k = froms bs known k := by
  rw [froms_snoc, if_neg (by omega), List.append_nil]
theorem froms_none {bs : List Brk} {b : Brk} {known : Int} (h : place b = none) (k : Nat) : froms (bs ++ [b]) known k = froms bs known k := by
  rw [froms_snoc, if_neg (by rw [h]; simp), List.append_nil]
theorem froms_at {bs : List Brk} {b : Brk} {known : Int} {q : Nat} (hk : b.known ≤ known) (h : place b = some q) (k : Nat) : froms (bs ++ [b]) known k = if k = q then froms bs known k ++ [b.frm] else froms bs known k := by
  rw [froms_snoc, h]
  by_cases hkq : k = q
  · rw [if_pos ⟨hk, by rw [hkq]⟩, if_pos hkq]
  · rw [if_neg (by rintro ⟨-, h2⟩; injection h2 with h2; exact hkq h2.symm), if_neg hkq, List.append_nil]
end Go.Proofs.YtkihcigojhcmgaaDoor
