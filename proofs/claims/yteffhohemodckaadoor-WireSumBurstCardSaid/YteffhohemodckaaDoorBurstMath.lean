/- Plain facts on a burst of changed bits in a string of bytes. No program in sight. -/
import Derived.Test.YteffhohemodckaaDoorCrcMath
namespace Go.Proofs.YteffhohemodckaaDoor

/-- Bit number k of a string, the lowest bit of each byte first. -/
def bitAt (L : List UInt8) (k : Nat) : Bool := (L.getD (k / 8) 0).toNat.testBit (k % 8)

theorem diffBits_length (S : List UInt8) : ∀ L : List UInt8, L.length = S.length → (diffBits S L).length = 8 * S.length := by
  induction S with
  | nil => intro L _; cases L <;> rfl
  | cons a S ih =>
    intro L hL
    match L, hL with
    | b :: L, hL =>
      have := ih L (by simpa using hL)
      simp only [diffBits, List.length_append, List.length_cons, this]
      have h8 : (bits8 (a ^^^ b)).length = 8 := rfl
      omega
theorem diffBits_get (S : List UInt8) : ∀ (L : List UInt8) (k : Nat), L.length = S.length → k < 8 * S.length → (diffBits S L)[k]? = some (bitAt S k ^^ bitAt L k) := by
  induction S with
  | nil => intro L k _ h; simp at h
  | cons a S ih =>
    intro L k hL hk
    match L, hL with
    | b :: L, hL =>
      have h8 : (bits8 (a ^^^ b)).length = 8 := rfl
      simp only [diffBits]
      by_cases h : k < 8
      · rw [List.getElem?_append_left (by omega)]
        have h0 : k / 8 = 0 := by omega
        have h1 : k % 8 = k := by omega
        simp [bits8, bitAt, h0, h1, h, UInt8.toNat_xor, Nat.testBit_xor]
      · rw [List.getElem?_append_right (by omega), h8, ih L (k - 8) (by simpa using hL) (by simp only [List.length_cons] at hk; omega)]
        have h0 : k / 8 = (k - 8) / 8 + 1 := by omega
        have h1 : k % 8 = (k - 8) % 8 := by omega
        simp [bitAt, h0, h1]

theorem testBit_byte (r j : Nat) (hr : r < 8) : (UInt8.ofNat (2 ^ r)).toNat.testBit j = decide (j = r) := by
  have : (UInt8.ofNat (2 ^ r)).toNat = 2 ^ r := by
    have h2 : (2 : Nat) ^ r ≤ 2 ^ 7 := Nat.pow_le_pow_right (by omega) (by omega)
    rw [UInt8.toNat_ofNat']
    exact Nat.mod_eq_of_lt (by generalize (2 : Nat) ^ r = p at *; omega)
  rw [this, Nat.testBit_two_pow]
  by_cases h : r = j
  · simp [h]
  · have h' : ¬ j = r := fun e => h e.symm
    simp [h, h']
/-- One bit flipped. -/
theorem bitAt_set (L : List UInt8) (k0 k : Nat) (h0 : k0 / 8 < L.length) : bitAt (L.set (k0 / 8) (L.getD (k0 / 8) 0 ^^^ UInt8.ofNat (2 ^ (k0 % 8)))) k = (bitAt L k ^^ decide (k = k0)) := by
  unfold bitAt
  by_cases h : k / 8 = k0 / 8
  · rw [h]
    have e : (L.set (k0 / 8) (L.getD (k0 / 8) 0 ^^^ UInt8.ofNat (2 ^ (k0 % 8)))).getD (k0 / 8) 0 = L.getD (k0 / 8) 0 ^^^ UInt8.ofNat (2 ^ (k0 % 8)) := by
      rw [List.getD_eq_getElem?_getD, List.getElem?_set_self h0]; rfl
    rw [e, UInt8.toNat_xor, Nat.testBit_xor, testBit_byte _ _ (by omega)]
    congr 1
    have : (k % 8 = k0 % 8) ↔ (k = k0) := by omega
    simp [this]
  · have e : (L.set (k0 / 8) (L.getD (k0 / 8) 0 ^^^ UInt8.ofNat (2 ^ (k0 % 8)))).getD (k / 8) 0 = L.getD (k / 8) 0 := by
      rw [List.getD_eq_getElem?_getD, List.getElem?_set_ne (by omega), ← List.getD_eq_getElem?_getD]
    have h' : ¬ k = k0 := fun e => h (by rw [e])
    rw [e]; simp [h']

/-- L differs from S at the bits of v, from a place on, m of them. -/
def Burst (S L : List UInt8) (v from_ m : Nat) : Prop := L.length = S.length ∧ ∀ k, k < 8 * S.length → bitAt L k = (bitAt S k ^^ (decide (from_ ≤ k ∧ k < from_ + m) && v.testBit (k - from_)))
theorem Burst.refl (S : List UInt8) (v from_ : Nat) : Burst S S v from_ 0 := ⟨rfl, fun k _ => by
  rw [decide_eq_false (by omega : ¬ (from_ ≤ k ∧ k < from_ + 0))]; simp⟩
theorem Burst.skip {S L : List UInt8} {v from_ m : Nat} (h : Burst S L v from_ m) (hb : v.testBit m = false) : Burst S L v from_ (m + 1) := ⟨h.1, fun k hk => by
  rw [h.2 k hk]
  congr 1
  by_cases e : k = from_ + m
  · subst e
    have h1 : ¬ (from_ ≤ from_ + m ∧ from_ + m < from_ + m) := by omega
    have h2 : from_ + m - from_ = m := by omega
    simp [h2, hb]
  · have : (from_ ≤ k ∧ k < from_ + m) ↔ (from_ ≤ k ∧ k < from_ + (m + 1)) := by omega
    simp [this]⟩
theorem Burst.flip {S L : List UInt8} {v from_ m : Nat} (h : Burst S L v from_ m) (hb : v.testBit m = true) (hk0 : from_ + m < 8 * S.length) :
    Burst S (L.set ((from_ + m) / 8) (L.getD ((from_ + m) / 8) 0 ^^^ UInt8.ofNat (2 ^ ((from_ + m) % 8)))) v from_ (m + 1) := by
  refine ⟨by rw [List.length_set]; exact h.1, fun k hk => ?_⟩
  rw [bitAt_set _ _ _ (by rw [h.1]; omega), h.2 k hk]
  by_cases e : k = from_ + m
  · subst e
    have h1 : ¬ (from_ ≤ from_ + m ∧ from_ + m < from_ + m) := by omega
    have h2 : from_ + m - from_ = m := by omega
    have h3 : (from_ ≤ from_ + m ∧ from_ + m < from_ + (m + 1)) := by omega
    simp [h2, hb]
  · have : (from_ ≤ k ∧ k < from_ + m) ↔ (from_ ≤ k ∧ k < from_ + (m + 1)) := by omega
    simp [this, e]
theorem list_bits {S L : List UInt8} (hl : L.length = S.length) (h : ∀ k, k < 8 * S.length → bitAt L k = bitAt S k) : L = S := by
  apply List.ext_getElem hl
  intro i h1 h2
  apply UInt8.toNat_inj.1
  apply Nat.eq_of_testBit_eq
  intro j
  by_cases hj : j < 8
  · have := h (8 * i + j) (by omega)
    unfold bitAt at this
    have e1 : (8 * i + j) / 8 = i := by omega
    have e2 : (8 * i + j) % 8 = j := by omega
    rw [e1, e2, List.getD_eq_getElem?_getD, List.getD_eq_getElem?_getD, List.getElem?_eq_getElem h1, List.getElem?_eq_getElem h2] at this
    exact this
  · have p : (256 : Nat) ≤ 2 ^ j := Nat.le_trans (by decide : 256 ≤ 2 ^ 8) (Nat.pow_le_pow_right (by omega) (by omega))
    rw [Nat.testBit_lt_two_pow (Nat.lt_of_lt_of_le L[i].toNat_lt p), Nat.testBit_lt_two_pow (Nat.lt_of_lt_of_le S[i].toNat_lt p)]
theorem Burst.same {S L : List UInt8} {v from_ m : Nat} (h : Burst S L v from_ m) (h0 : ∀ t, t < m → v.testBit t = false) : L = S := by
  refine list_bits h.1 fun k hk => ?_
  rw [h.2 k hk]
  by_cases e : from_ ≤ k ∧ k < from_ + m
  · rw [h0 (k - from_) (by omega)]; simp
  · simp [e]
/-- A burst of at most 32 bits, one of them changed, changes the checksum. -/
theorem Burst.crc_ne {S L : List UInt8} {v from_ m : Nat} (h : Burst S L v from_ m) (hm : m ≤ 32) (hle : from_ + m ≤ 8 * S.length) {t : Nat} (ht : t < m) (hb : v.testBit t = true) : crc S ≠ crc L := by
  have hd : diffBits S L = List.replicate from_ false ++ ((List.range m).map (fun i => v.testBit i) ++ List.replicate (8 * S.length - (from_ + m)) false) := by
    apply List.ext_getElem?
    intro k
    by_cases hk : k < 8 * S.length
    · rw [diffBits_get S L k h.1 hk, h.2 k hk]
      have hx : (bitAt S k ^^ (bitAt S k ^^ (decide (from_ ≤ k ∧ k < from_ + m) && v.testBit (k - from_)))) = (decide (from_ ≤ k ∧ k < from_ + m) && v.testBit (k - from_)) := by
        cases bitAt S k <;> cases (decide (from_ ≤ k ∧ k < from_ + m) && v.testBit (k - from_)) <;> rfl
      rw [hx]
      by_cases h1 : k < from_
      · rw [List.getElem?_append_left (by simpa using h1)]
        have : ¬ (from_ ≤ k ∧ k < from_ + m) := by omega
        simp [h1, this]
      · rw [List.getElem?_append_right (by simp; omega)]
        by_cases h2 : k < from_ + m
        · rw [List.getElem?_append_left (by simp; omega)]
          have : (from_ ≤ k ∧ k < from_ + m) := by omega
          simp [this, show k - from_ < m by omega]
        · rw [List.getElem?_append_right (by simp; omega)]
          rw [decide_eq_false (by omega : ¬ (from_ ≤ k ∧ k < from_ + m)), List.getElem?_replicate, if_pos (by simp; omega)]
          rfl
    · rw [List.getElem?_eq_none (by rw [diffBits_length S L h.1]; omega), List.getElem?_eq_none (by simp; omega)]
  exact _root_.Go.Proofs.YteffhohemodckaaDoor.crc_ne h.1 hd (by simpa using hm) (by simp; exact ⟨t, ht, hb⟩)
end Go.Proofs.YteffhohemodckaaDoor
