/- Plain facts on the checksum: no program in sight. -/
import Init
namespace Go.Proofs.YteffhohemodckaaDoor

/-- One shift of the register. -/
def crcStep (r : BitVec 32) : BitVec 32 := if r.getLsbD 0 then (r >>> 1) ^^^ 0x82F63B78#32 else r >>> 1
/-- n shifts. -/
def crcSteps : Nat → BitVec 32 → BitVec 32
  | 0, r => r
  | n + 1, r => crcSteps n (crcStep r)

theorem crcStep_zero : crcStep 0#32 = 0#32 := by decide
theorem crcStep_xor (x y : BitVec 32) : crcStep (x ^^^ y) = crcStep x ^^^ crcStep y := by
  unfold crcStep
  rw [BitVec.getLsbD_xor, BitVec.ushiftRight_xor_distrib]
  cases x.getLsbD 0 <;> cases y.getLsbD 0 <;> simp
  · rw [BitVec.xor_assoc]
  · rw [BitVec.xor_assoc, BitVec.xor_assoc, BitVec.xor_comm (0x82F63B78#32)]
  · have h : ∀ p q c : BitVec 32, p ^^^ q = p ^^^ c ^^^ (q ^^^ c) := by
      intro p q c
      rw [BitVec.xor_assoc, ← BitVec.xor_assoc c q c, BitVec.xor_comm c q, BitVec.xor_assoc q c c, BitVec.xor_self, BitVec.xor_zero]
    exact h _ _ _
theorem crcStep_ne {x : BitVec 32} (h : x ≠ 0#32) : crcStep x ≠ 0#32 := by
  intro e
  unfold crcStep at e
  cases hb : x.getLsbD 0 with
  | true =>
    rw [hb, if_pos rfl] at e
    have h31 := congrArg (fun v : BitVec 32 => v.getLsbD 31) e
    simp at h31
  | false =>
    rw [hb, if_neg (by simp)] at e
    apply h
    apply BitVec.eq_of_getLsbD_eq
    intro i hi
    rcases i with _ | i
    · rw [hb]; simp
    · have := congrArg (fun v : BitVec 32 => v.getLsbD i) e
      simp [BitVec.getLsbD_ushiftRight] at this
      rw [Nat.add_comm] at this
      simp [this]

theorem crcSteps_zero (n : Nat) : crcSteps n 0#32 = 0#32 := by
  induction n with
  | zero => rfl
  | succ n ih => rw [crcSteps, crcStep_zero, ih]
theorem crcSteps_xor (n : Nat) : ∀ x y : BitVec 32, crcSteps n (x ^^^ y) = crcSteps n x ^^^ crcSteps n y := by
  induction n with
  | zero => intro x y; rfl
  | succ n ih => intro x y; rw [crcSteps, crcStep_xor, ih]; rfl
theorem crcSteps_ne (n : Nat) : ∀ {x : BitVec 32}, x ≠ 0#32 → crcSteps n x ≠ 0#32 := by
  induction n with
  | zero => intro x h; exact h
  | succ n ih => intro x h; rw [crcSteps]; exact ih (crcStep_ne h)
theorem crcSteps_add (m : Nat) : ∀ (n : Nat) (x : BitVec 32), crcSteps (m + n) x = crcSteps n (crcSteps m x) := by
  induction m with
  | zero => intro n x; rw [Nat.zero_add]; rfl
  | succ m ih => intro n x; rw [show m + 1 + n = (m + n) + 1 from by omega, crcSteps, ih]; rfl

/-- The register behind a byte. -/
def crcByte (r : BitVec 32) (b : UInt8) : BitVec 32 := crcSteps 8 (r ^^^ BitVec.ofNat 32 b.toNat)
/-- The register behind some bytes. -/
def crcReg (r : BitVec 32) (l : List UInt8) : BitVec 32 := l.foldl crcByte r
/-- The checksum. -/
def crc (l : List UInt8) : BitVec 32 := ~~~ (crcReg 0xFFFFFFFF#32 l)

theorem crcReg_snoc (r : BitVec 32) (l : List UInt8) (b : UInt8) : crcReg r (l ++ [b]) = crcByte (crcReg r l) b := by simp [crcReg]

/-! ### The table -/
/-- The register behind four shifts of a number below sixteen. -/
def nibs : List Nat := [0, 274646895, 549293790, 820201905, 1098587580, 1361435347, 1640403810, 1905808397, 2197175160, 2460548119, 2722870694, 2987750089, 3280807620, 3553878443, 3811616794, 4084100981]
theorem nibs_ok : ∀ i : Fin 16, crcSteps 4 (BitVec.ofNat 32 i.val) = BitVec.ofNat 32 (nibs.getD i.val 0) := by decide

theorem crcStep_even {x : BitVec 32} (h : x.getLsbD 0 = false) : crcStep x = x >>> 1 := by rw [crcStep, h, if_neg (by simp)]
theorem crcSteps4_high {x : BitVec 32} (h0 : x.getLsbD 0 = false) (h1 : x.getLsbD 1 = false) (h2 : x.getLsbD 2 = false) (h3 : x.getLsbD 3 = false) : crcSteps 4 x = x >>> 4 := by
  show crcStep (crcStep (crcStep (crcStep x))) = _
  rw [crcStep_even h0, crcStep_even (x := x >>> 1) (by rw [BitVec.getLsbD_ushiftRight]; exact h1), ← BitVec.shiftRight_add, crcStep_even (x := x >>> (1 + 1)) (by rw [BitVec.getLsbD_ushiftRight]; exact h2), ← BitVec.shiftRight_add,
    crcStep_even (x := x >>> (1 + 1 + 1)) (by rw [BitVec.getLsbD_ushiftRight]; exact h3), ← BitVec.shiftRight_add]

/-- Four shifts at once, by the table. -/
theorem crcSteps4 (r : BitVec 32) : crcSteps 4 r = (r >>> 4) ^^^ BitVec.ofNat 32 (nibs.getD (r.toNat % 16) 0) := by
  have hlow : r &&& 15#32 = BitVec.ofNat 32 (r.toNat % 16) := by
    apply BitVec.eq_of_toNat_eq
    rw [BitVec.toNat_and, BitVec.toNat_ofNat]
    have : r.toNat &&& 15 = r.toNat % 16 := Nat.and_two_pow_sub_one_eq_mod r.toNat 4
    rw [show r.toNat &&& 15 % 2 ^ 32 = r.toNat % 16 from this, BitVec.toNat_ofNat]; omega
  have hsplit : r = (r &&& 0xFFFFFFF0#32) ^^^ (r &&& 15#32) := by
    apply BitVec.eq_of_getLsbD_eq
    intro i hi
    rw [BitVec.getLsbD_xor, BitVec.getLsbD_and, BitVec.getLsbD_and]
    have : (0xFFFFFFF0#32).getLsbD i = !(15#32).getLsbD i := by
      have hall : ∀ j : Fin 32, (0xFFFFFFF0#32).getLsbD j.val = !(15#32).getLsbD j.val := by decide
      exact hall ⟨i, hi⟩
    rw [this]
    cases r.getLsbD i <;> cases (15#32).getLsbD i <;> rfl
  have hbit : ∀ j : Fin 4, (r &&& 0xFFFFFFF0#32).getLsbD j.val = false := by
    intro j
    rw [BitVec.getLsbD_and]
    have hall : ∀ j : Fin 4, (0xFFFFFFF0#32).getLsbD j.val = false := by decide
    rw [hall j, Bool.and_false]
  have hsh : (r &&& 0xFFFFFFF0#32) >>> 4 = r >>> 4 := by
    apply BitVec.eq_of_getLsbD_eq
    intro i hi
    rw [BitVec.getLsbD_ushiftRight, BitVec.getLsbD_ushiftRight, BitVec.getLsbD_and]
    by_cases h : 4 + i < 32
    · have hall : ∀ j : Fin 28, (0xFFFFFFF0#32).getLsbD (4 + j.val) = true := by decide
      rw [hall ⟨i, by omega⟩, Bool.and_true]
    · rw [BitVec.getLsbD_of_ge r _ (by omega), Bool.false_and]
  have hn := nibs_ok ⟨r.toNat % 16, by omega⟩
  rw [← hlow] at hn
  have e : crcSteps 4 r = crcSteps 4 ((r &&& 0xFFFFFFF0#32) ^^^ (r &&& 15#32)) := congrArg _ hsplit
  rw [e, crcSteps_xor, hn, crcSteps4_high (hbit 0) (hbit 1) (hbit 2) (hbit 3), hsh]

/-! ### The checksum of an exclusive or -/
theorem crcByte_xor3 (r s t : BitVec 32) (a b c : UInt8) : crcByte (r ^^^ s ^^^ t) (a ^^^ b ^^^ c) = crcByte r a ^^^ crcByte s b ^^^ crcByte t c := by
  unfold crcByte
  rw [← crcSteps_xor, ← crcSteps_xor]
  congr 1
  have e : BitVec.ofNat 32 (a ^^^ b ^^^ c).toNat = BitVec.ofNat 32 a.toNat ^^^ BitVec.ofNat 32 b.toNat ^^^ BitVec.ofNat 32 c.toNat := by
    rw [UInt8.toNat_xor, UInt8.toNat_xor, BitVec.ofNat_xor, BitVec.ofNat_xor]
  rw [e]
  ac_rfl
theorem crcReg_xor3 (a : List UInt8) : ∀ (b c x : List UInt8) (r s t : BitVec 32), b.length = a.length → c.length = a.length → x.length = a.length →
    (∀ i : Nat, i < a.length → x[i]? = some (a.getD i 0 ^^^ b.getD i 0 ^^^ c.getD i 0)) → crcReg (r ^^^ s ^^^ t) x = crcReg r a ^^^ crcReg s b ^^^ crcReg t c := by
  induction a with
  | nil =>
    intro b c x r s t hb hc hx _
    rw [List.eq_nil_of_length_eq_zero hb, List.eq_nil_of_length_eq_zero hc, List.eq_nil_of_length_eq_zero hx]; rfl
  | cons a as ih =>
    intro b c x r s t hb hc hx h
    match b, c, x, hb, hc, hx, h with
    | b :: bs, c :: cs, x :: xs, hb, hc, hx, h =>
      have h0 := h 0 (by simp)
      simp at h0
      simp only [crcReg, List.foldl_cons] at ih ⊢
      rw [h0, crcByte_xor3]
      exact ih bs cs xs _ _ _ (by simpa using hb) (by simpa using hc) (by simpa using hx) (fun i hi => by simpa using h (i + 1) (by simpa using hi))
theorem crc_xor3 {a b c x : List UInt8} (hb : b.length = a.length) (hc : c.length = a.length) (hx : x.length = a.length)
    (h : ∀ i : Nat, i < a.length → x[i]? = some (a.getD i 0 ^^^ b.getD i 0 ^^^ c.getD i 0)) : crc x = crc a ^^^ crc b ^^^ crc c := by
  unfold crc
  have := crcReg_xor3 a b c x 0xFFFFFFFF#32 0xFFFFFFFF#32 0xFFFFFFFF#32 hb hc hx h
  have e : (0xFFFFFFFF#32 ^^^ 0xFFFFFFFF#32 ^^^ 0xFFFFFFFF#32 : BitVec 32) = 0xFFFFFFFF#32 := by decide
  rw [e] at this
  rw [this]
  apply BitVec.eq_of_getLsbD_eq
  intro i hi
  simp only [BitVec.getLsbD_not, BitVec.getLsbD_xor, hi, decide_true, Bool.true_and]
  cases (crcReg 0xFFFFFFFF#32 a).getLsbD i <;> cases (crcReg 0xFFFFFFFF#32 b).getLsbD i <;> cases (crcReg 0xFFFFFFFF#32 c).getLsbD i <;> rfl

/-! ### A burst -/
/-- The difference of two registers, bit by bit: d is the difference, the list the differing bits, the first one first. -/
def crcDiff (d : BitVec 32) : List Bool → BitVec 32
  | [] => d
  | x :: xs => crcDiff (crcStep (d ^^^ (if x then 1#32 else 0#32))) xs

theorem crcDiff_append (xs : List Bool) : ∀ (d : BitVec 32) (ys : List Bool), crcDiff d (xs ++ ys) = crcDiff (crcDiff d xs) ys := by
  induction xs with
  | nil => intro d ys; rfl
  | cons x xs ih => intro d ys; exact ih _ _
theorem crcDiff_zeros (n : Nat) : ∀ d : BitVec 32, crcDiff d (List.replicate n false) = crcSteps n d := by
  induction n with
  | zero => intro d; rfl
  | succ n ih => intro d; rw [List.replicate_succ, crcDiff, ih]; simp [crcSteps]

/-- The word whose bits, the lowest one first, are a list. -/
def wordOf : List Bool → BitVec 32
  | [] => 0#32
  | x :: xs => (if x then 1#32 else 0#32) ^^^ (wordOf xs <<< 1)

theorem wordOf_top (xs : List Bool) : ∀ i : Nat, xs.length ≤ i → (wordOf xs).getLsbD i = false := by
  induction xs with
  | nil => intro i _; simp [wordOf]
  | cons x xs ih =>
    intro i hi
    simp only [List.length_cons] at hi
    rw [wordOf, BitVec.getLsbD_xor, BitVec.getLsbD_shiftLeft]
    obtain ⟨j, rfl⟩ : ∃ j, i = j + 1 := ⟨i - 1, by omega⟩
    have h1 : (if x = true then 1#32 else 0#32 : BitVec 32).getLsbD (j + 1) = false := by
      cases x <;> simp [BitVec.getLsbD_one]
    rw [h1]
    simp [ih j (by omega)]
theorem crcStep_shl {x : BitVec 32} (h : x.getLsbD 31 = false) : crcStep (x <<< 1) = x := by
  rw [crcStep_even (by simp)]
  apply BitVec.eq_of_getLsbD_eq
  intro i hi
  rw [BitVec.getLsbD_ushiftRight, BitVec.getLsbD_shiftLeft]
  by_cases e : i = 31
  · subst e; rw [h]; simp
  · have h1 : 1 + i < 32 := by omega
    simp [h1]
/-- At most 32 differing bits, fed in one by one, make what the whole word makes. -/
theorem crcDiff_word (xs : List Bool) : ∀ d : BitVec 32, xs.length ≤ 32 → crcDiff d xs = crcSteps xs.length (d ^^^ wordOf xs) := by
  induction xs with
  | nil => intro d _; simp [crcDiff, wordOf, crcSteps]
  | cons x xs ih =>
    intro d hl
    simp only [List.length_cons] at hl
    rw [crcDiff, ih _ (by omega), List.length_cons, crcSteps, wordOf]
    congr 1
    rw [← BitVec.xor_assoc, crcStep_xor _ (wordOf xs <<< 1), crcStep_shl (wordOf_top xs 31 (by omega))]
theorem wordOf_ne {xs : List Bool} (hl : xs.length ≤ 32) (h : true ∈ xs) : wordOf xs ≠ 0#32 := by
  induction xs with
  | nil => cases h
  | cons x xs ih =>
    intro e
    rw [wordOf] at e
    have h0 := congrArg (fun v : BitVec 32 => v.getLsbD 0) e
    simp only [BitVec.getLsbD_xor, BitVec.getLsbD_shiftLeft] at h0
    cases x with
    | true => simp at h0
    | false =>
      have hm : true ∈ xs := by simpa using h
      simp only [List.length_cons] at hl
      apply ih (by omega) hm
      simp at e
      apply BitVec.eq_of_getLsbD_eq
      intro i hi
      by_cases e31 : i = 31
      · subst e31; rw [wordOf_top xs 31 (by omega)]; simp
      · have := congrArg (fun v : BitVec 32 => v.getLsbD (i + 1)) e
        simp only [BitVec.getLsbD_shiftLeft] at this
        simpa [show i + 1 < 32 by omega] using this
/-- A burst of at most 32 bits is seen. -/
theorem crcDiff_burst {xs : List Bool} (p q : Nat) (hl : xs.length ≤ 32) (h : true ∈ xs) : crcDiff 0#32 (List.replicate p false ++ (xs ++ List.replicate q false)) ≠ 0#32 := by
  rw [crcDiff_append, crcDiff_zeros, crcSteps_zero, crcDiff_append, crcDiff_zeros, crcDiff_word xs _ hl]
  refine crcSteps_ne _ (crcSteps_ne _ ?_)
  rw [BitVec.zero_xor]
  exact wordOf_ne hl h

/-- The bits of a byte, the lowest one first. -/
def bits8 (b : UInt8) : List Bool := (List.range 8).map fun i => b.toNat.testBit i
/-- The differing bits of two strings. -/
def diffBits : List UInt8 → List UInt8 → List Bool
  | a :: as, b :: bs => bits8 (a ^^^ b) ++ diffBits as bs
  | _, _ => []
set_option maxRecDepth 100000 in
theorem wordOf_bits8 (b : UInt8) : wordOf (bits8 b) = BitVec.ofNat 32 b.toNat := by
  have hall : ∀ n : Fin 256, wordOf ((List.range 8).map fun i => n.val.testBit i) = BitVec.ofNat 32 n.val := by decide
  exact hall ⟨b.toNat, b.toNat_lt⟩
theorem crcByte_diff (r s : BitVec 32) (a b : UInt8) : crcByte r a ^^^ crcByte s b = crcDiff (r ^^^ s) (bits8 (a ^^^ b)) := by
  have h8 : (bits8 (a ^^^ b)).length = 8 := rfl
  rw [crcDiff_word _ _ (by rw [h8]; decide), h8, wordOf_bits8, UInt8.toNat_xor, BitVec.ofNat_xor]
  unfold crcByte
  rw [← crcSteps_xor]
  congr 1
  ac_rfl
theorem crcReg_diff (a : List UInt8) : ∀ (b : List UInt8) (r s : BitVec 32), b.length = a.length → crcReg r a ^^^ crcReg s b = crcDiff (r ^^^ s) (diffBits a b) := by
  induction a with
  | nil => intro b r s hb; rw [List.eq_nil_of_length_eq_zero hb]; rfl
  | cons a as ih =>
    intro b r s hb
    match b, hb with
    | b :: bs, hb =>
      simp only [crcReg, List.foldl_cons, diffBits] at ih ⊢
      rw [crcDiff_append, ← crcByte_diff]
      exact ih bs _ _ (by simpa using hb)
theorem crc_ne {a b : List UInt8} {p q : Nat} {xs : List Bool} (hb : b.length = a.length) (hd : diffBits a b = List.replicate p false ++ (xs ++ List.replicate q false)) (hl : xs.length ≤ 32) (h : true ∈ xs) : crc a ≠ crc b := by
  intro e
  have hd' := crcReg_diff a b 0xFFFFFFFF#32 0xFFFFFFFF#32 hb
  rw [BitVec.xor_self, hd] at hd'
  apply crcDiff_burst p q hl h
  rw [← hd']
  unfold crc at e
  have := congrArg (fun v => ~~~ v) e
  simp at this
  rw [this, BitVec.xor_self]
end Go.Proofs.YteffhohemodckaaDoor
