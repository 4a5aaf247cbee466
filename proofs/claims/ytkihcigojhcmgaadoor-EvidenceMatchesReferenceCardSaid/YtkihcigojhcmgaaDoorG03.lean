/- The reference's work on one block. -/
import Derived.Test.YtkihcigojhcmgaaDoorG02
import Derived.Deep.RegionHeld3
import Derived.Deep.RegionLaw
import Derived.Deep.DeepCutAuto
import Derived.WalkSmall
namespace Go.Proofs.YtkihcigojhcmgaaDoor
open Go.RowKit

theorem rotated_int (x : Nat) (z : Int) (w : World) (hx : x < 4294967296) (h1 : 1 ≤ z) (h2 : z ≤ 31) :
    Calls Tryd.prog 68 #[.int .u32 (x : Int), .int .i64 z] w fun e w' => e = .returned (.int .u32 ((rotr x z.toNat : Nat) : Int)) ∧ ∃ q, w' = w.drewN q := by
  obtain ⟨n, rfl⟩ := Int.eq_ofNat_of_zero_le (show 0 ≤ z by omega)
  exact rotated_any x n w hx (by omega) (by omega)
theorem u32_xor_nat' (a b : Nat) (ha : a < 4294967296) (hb : b < 4294967296) : bits .xor .u32 (a : Int) (b : Int) = ((a ^^^ b : Nat) : Int) := u32_xor_nat a b ha hb
theorem xor_lt32 {a b : Nat} (ha : a < 4294967296) (hb : b < 4294967296) : a ^^^ b < 4294967296 := by
  have h := Nat.xor_lt_two_pow (n := 32) (x := a) (y := b) (by omega) (by omega)
  omega
theorem xor3_bitsN (f g h : Nat) (hf : f < 4294967296) (hg : g < 4294967296) (hh : h < 4294967296) :
    bits .xor .u32 (bits .xor .u32 (f : Int) (g : Int)) (h : Int) = (((f ^^^ g) ^^^ h : Nat) : Int) := by
  rw [u32_xor_nat' f g hf hg, u32_xor_nat' _ h (xor_lt32 hf hg) hh]
theorem sig0_bits (x : Nat) (hx : x < 4294967296) : bits .xor .u32 (bits .xor .u32 ((rotr x 7 : Nat) : Int) ((rotr x 18 : Nat) : Int)) ((x : Int) / 8) = ((sig0 x : Nat) : Int) := by
  have h := xor3_bitsN (rotr x 7) (rotr x 18) (x / 8) (rotr_lt x 7 hx) (rotr_lt x 18 hx) (by omega)
  rw [show (x : Int) / 8 = ((x / 8 : Nat) : Int) by omega, h, sig0]
theorem sig1_bits (x : Nat) (hx : x < 4294967296) : bits .xor .u32 (bits .xor .u32 ((rotr x 17 : Nat) : Int) ((rotr x 19 : Nat) : Int)) ((x : Int) / 1024) = ((sig1 x : Nat) : Int) := by
  have h := xor3_bitsN (rotr x 17) (rotr x 19) (x / 1024) (rotr_lt x 17 hx) (rotr_lt x 19 hx) (by omega)
  rw [show (x : Int) / 1024 = ((x / 1024 : Nat) : Int) by omega, h, sig1]
theorem sig0_lt (x : Nat) (hx : x < 4294967296) : sig0 x < 4294967296 := by
  rw [sig0]; exact xor_lt32 (xor_lt32 (rotr_lt x 7 hx) (rotr_lt x 18 hx)) (by omega)
theorem sig1_lt (x : Nat) (hx : x < 4294967296) : sig1 x < 4294967296 := by
  rw [sig1]; exact xor_lt32 (xor_lt32 (rotr_lt x 17 hx) (rotr_lt x 19 hx)) (by omega)
theorem word_bits (a b c d : Nat) (ha : a < 256) (hb : b < 256) (hc : c < 256) (hd : d < 256) :
    bits .or .u32 (bits .or .u32 (bits .or .u32 (IntKind.u32.wrap (IntKind.u32.wrap (a : Int) * 16777216)) (IntKind.u32.wrap (IntKind.u32.wrap (b : Int) * 65536))) (IntKind.u32.wrap (IntKind.u32.wrap (c : Int) * 256))) (IntKind.u32.wrap (d : Int)) = ((word4 a b c d : Nat) : Int) := by
  have e : ∀ x m : Nat, x * m < 4294967296 → x < 4294967296 → IntKind.u32.wrap (IntKind.u32.wrap (x : Int) * (m : Int)) = ((x * m : Nat) : Int) := by
    intro x m h hx
    have h1 : IntKind.u32.wrap (x : Int) = x := by rw [IntKind.wrap_u32]; omega
    rw [h1, IntKind.wrap_u32, ← Int.natCast_mul]; omega
  have e0 := e a 16777216 (by omega) (by omega)
  have e1 := e b 65536 (by omega) (by omega)
  have e2 := e c 256 (by omega) (by omega)
  have e3 : IntKind.u32.wrap (d : Int) = d := by rw [IntKind.wrap_u32]; omega
  have o1 : a * 16777216 ||| b * 65536 < 2 ^ 32 := Nat.or_lt_two_pow (by omega) (by omega)
  have o2 : (a * 16777216 ||| b * 65536) ||| c * 256 < 2 ^ 32 := Nat.or_lt_two_pow o1 (by omega)
  rw [show (16777216 : Int) = ((16777216 : Nat) : Int) from rfl, show (65536 : Int) = ((65536 : Nat) : Int) from rfl, show (256 : Int) = ((256 : Nat) : Int) from rfl, e0, e1, e2, e3,
    u32_or_nat' _ _ (by omega) (by omega), u32_or_nat' _ _ (by omega) (by omega), u32_or_nat' _ _ (by omega) (by omega)]
  rfl

theorem word4_lt (a b c d : Nat) (ha : a < 256) (hb : b < 256) (hc : c < 256) (hd : d < 256) : word4 a b c d < 4294967296 := by
  have h : word4 a b c d < 2 ^ 32 := by
    unfold word4
    exact Nat.or_lt_two_pow (Nat.or_lt_two_pow (Nat.or_lt_two_pow (by omega) (by omega)) (by omega)) (by omega)
  omega
theorem word0_lt1 (B : List UInt8) (k : Nat) : word0 B k < 4294967296 := by
  unfold word0
  apply word4_lt
  · exact UInt8.toNat_lt _
  · exact UInt8.toNat_lt _
  · exact UInt8.toNat_lt _
  · exact UInt8.toNat_lt _
theorem map_lt {f : Nat → Nat} {N : Nat} (h0 : 0 < N) (hf : ∀ k, f k < N) (l : List Nat) (i : Nat) : (l.map f).getD i 0 < N := by
  rw [List.getD_eq_getElem?_getD, List.getElem?_map]
  cases l[i]? with
  | none => exact h0
  | some k => exact hf k
theorem word0_lt (B : List UInt8) (n : Nat) (i : Nat) : ((List.range n).map (word0 B)).getD i 0 < 4294967296 := map_lt (by omega) (word0_lt1 B) _ _

def teeX (x4 x5 x6 x7 k w : Nat) : Nat := ((((x7 + big1 x4) % 4294967296 + chf x4 x5 x6) % 4294967296 + k) % 4294967296 + w) % 4294967296
def youX (x0 x1 x2 : Nat) : Nat := (big0 x0 + maj x0 x1 x2) % 4294967296
theorem step_eq (V : List Nat) (k y : Nat) : step V k y = [(teeX (V.getD 4 0) (V.getD 5 0) (V.getD 6 0) (V.getD 7 0) k y + youX (V.getD 0 0) (V.getD 1 0) (V.getD 2 0)) % 4294967296, V.getD 0 0, V.getD 1 0, V.getD 2 0, (V.getD 3 0 + teeX (V.getD 4 0) (V.getD 5 0) (V.getD 6 0) (V.getD 7 0) k y) % 4294967296, V.getD 4 0, V.getD 5 0, V.getD 6 0] := rfl
theorem and_lt32 {a : Nat} (b : Nat) (ha : a < 4294967296) : a &&& b < 4294967296 := Nat.lt_of_le_of_lt Nat.and_le_left ha
theorem not_bits (x : Nat) (hx : x < 4294967296) : bits .xor .u32 (if IntKind.u32.signed = true then -1 else IntKind.u32.max) (x : Int) = ((4294967295 - x : Nat) : Int) := by
  have e : (if IntKind.u32.signed = true then -1 else IntKind.u32.max) = ((4294967295 : Nat) : Int) := by rfl
  rw [e, u32_xor_nat' _ _ (by omega) hx]
  have h : (BitVec.ofNat 32 4294967295 ^^^ BitVec.ofNat 32 x).toNat = (~~~ (BitVec.ofNat 32 x)).toNat := by
    rw [show BitVec.ofNat 32 4294967295 = BitVec.allOnes 32 by rfl, BitVec.allOnes_xor]
  rw [BitVec.toNat_xor, BitVec.toNat_not, BitVec.toNat_ofNat, BitVec.toNat_ofNat, Nat.mod_eq_of_lt (by omega), Nat.mod_eq_of_lt (a := x) (by omega)] at h
  rw [h]
theorem chf_bits (e f g : Nat) (he : e < 4294967296) (hf : f < 4294967296) (hg : g < 4294967296) :
    bits .xor .u32 (bits .and .u32 (e : Int) (f : Int)) (bits .and .u32 (bits .xor .u32 (if IntKind.u32.signed = true then -1 else IntKind.u32.max) (e : Int)) (g : Int)) = ((chf e f g : Nat) : Int) := by
  rw [not_bits e he, u32_and_nat e f he hf, u32_and_nat _ g (by omega) hg, u32_xor_nat' _ _ (and_lt32 _ he) (and_lt32 _ (by omega)), chf]
theorem maj_bits (a b c : Nat) (ha : a < 4294967296) (hb : b < 4294967296) (hc : c < 4294967296) :
    bits .xor .u32 (bits .xor .u32 (bits .and .u32 (a : Int) (b : Int)) (bits .and .u32 (a : Int) (c : Int))) (bits .and .u32 (b : Int) (c : Int)) = ((maj a b c : Nat) : Int) := by
  rw [u32_and_nat a b ha hb, u32_and_nat a c ha hc, u32_and_nat b c hb hc, xor3_bitsN _ _ _ (and_lt32 _ ha) (and_lt32 _ ha) (and_lt32 _ hb), maj]
theorem big1_bits (x : Nat) (hx : x < 4294967296) : bits .xor .u32 (bits .xor .u32 ((rotr x 6 : Nat) : Int) ((rotr x 11 : Nat) : Int)) ((rotr x 25 : Nat) : Int) = ((big1 x : Nat) : Int) := by
  rw [xor3_bitsN _ _ _ (rotr_lt x 6 hx) (rotr_lt x 11 hx) (rotr_lt x 25 hx), big1]
theorem big0_bits (x : Nat) (hx : x < 4294967296) : bits .xor .u32 (bits .xor .u32 ((rotr x 2 : Nat) : Int) ((rotr x 13 : Nat) : Int)) ((rotr x 22 : Nat) : Int) = ((big0 x : Nat) : Int) := by
  rw [xor3_bitsN _ _ _ (rotr_lt x 2 hx) (rotr_lt x 13 hx) (rotr_lt x 22 hx), big0]
theorem tee_bits (x4 x5 x6 x7 k y : Nat) (h4 : x4 < 4294967296) (h5 : x5 < 4294967296) (h6 : x6 < 4294967296) :
    (((x7 : Int) + bits .xor .u32 (bits .xor .u32 ((rotr x4 6 : Nat) : Int) ((rotr x4 11 : Nat) : Int)) ((rotr x4 25 : Nat) : Int) +
      bits .xor .u32 (bits .and .u32 (x4 : Int) (x5 : Int)) (bits .and .u32 (bits .xor .u32 (if IntKind.u32.signed = true then -1 else IntKind.u32.max) (x4 : Int)) (x6 : Int)) + (k : Int)) % 4294967296 + (y : Int)) % 4294967296 = ((teeX x4 x5 x6 x7 k y : Nat) : Int) := by
  rw [chf_bits x4 x5 x6 h4 h5 h6, big1_bits x4 h4, teeX]
  generalize big1 x4 = a
  generalize chf x4 x5 x6 = b
  omega
theorem you_bits (x0 x1 x2 : Nat) (h0 : x0 < 4294967296) (h1 : x1 < 4294967296) (h2 : x2 < 4294967296) :
    (bits .xor .u32 (bits .xor .u32 ((rotr x0 2 : Nat) : Int) ((rotr x0 13 : Nat) : Int)) ((rotr x0 22 : Nat) : Int) +
      bits .xor .u32 (bits .xor .u32 (bits .and .u32 (x0 : Int) (x1 : Int)) (bits .and .u32 (x0 : Int) (x2 : Int))) (bits .and .u32 (x1 : Int) (x2 : Int))) % 4294967296 = ((youX x0 x1 x2 : Nat) : Int) := by
  rw [maj_bits x0 x1 x2 h0 h1 h2, big0_bits x0 h0, youX]
  generalize big0 x0 = a
  generalize maj x0 x1 x2 = b
  omega
theorem teeX_lt (x4 x5 x6 x7 k w : Nat) : teeX x4 x5 x6 x7 k w < 4294967296 := by
  rw [teeX]; exact Nat.mod_lt _ (by omega)
theorem youX_lt (x0 x1 x2 : Nat) : youX x0 x1 x2 < 4294967296 := by
  rw [youX]; exact Nat.mod_lt _ (by omega)
theorem shaK_lt (i : Nat) : shaK.getD i 0 < 4294967296 := by
  rcases Nat.lt_or_ge i 64 with h | h
  · have : ∀ i, i < 64 → shaK.getD i 0 < 4294967296 := by decide
    exact this i h
  · rw [List.getD_eq_getElem?_getD, List.getElem?_eq_none (by exact h)]; decide
theorem step_length (v : List Nat) (k w : Nat) : (step v k w).length = 8 := rfl
theorem rounds_length {W H : List Nat} (hH : H.length = 8) (n : Nat) : (rounds W H n).length = 8 := by
  cases n with
  | zero => exact hH
  | succ n => exact step_length _ _ _
theorem getD_all {l : List Nat} {N : Nat} (hN : 0 < N) (h : ∀ x ∈ l, x < N) (i : Nat) : l.getD i 0 < N := by
  rw [List.getD_eq_getElem?_getD]
  rcases Nat.lt_or_ge i l.length with hi | hi
  · rw [List.getElem?_eq_getElem hi]; exact h _ (List.getElem_mem hi)
  · rw [List.getElem?_eq_none hi]; exact hN
theorem step_all {N : Nat} (hN : 0 < N) {_a b c d _e f g h t u _y : Nat} (hb : b < N) (hc : c < N) (hd : d < N) (hf : f < N) (hg : g < N) (hh : h < N) : ∀ x ∈ [t % N, b, c, d, u % N, f, g, h], x < N := by
  intro x hx
  simp only [List.mem_cons, List.not_mem_nil, or_false] at hx
  rcases hx with rfl | rfl | rfl | rfl | rfl | rfl | rfl | rfl
  · exact Nat.mod_lt _ hN
  · exact hb
  · exact hc
  · exact hd
  · exact Nat.mod_lt _ hN
  · exact hf
  · exact hg
  · exact hh
theorem step_lt {v : List Nat} {k y : Nat} (h : ∀ i, v.getD i 0 < 4294967296) : ∀ i, (step v k y).getD i 0 < 4294967296 := by
  intro i
  unfold step
  exact getD_all (by omega) (step_all (_a := 0) (_e := 0) (_y := 0) (by omega) (h 0) (h 1) (h 2) (h 4) (h 5) (h 6)) i
theorem rounds_lt {W H : List Nat} (_hW : ∀ i, W.getD i 0 < 4294967296) (hH : ∀ i, H.getD i 0 < 4294967296) (n : Nat) : ∀ i, (rounds W H n).getD i 0 < 4294967296 := by
  induction n with
  | zero => exact hH
  | succ n ih => rw [rounds]; exact step_lt ih

theorem words_alloc (w : World) (L : List Nat) (cs : Array Value) (h : cs = (ucs L).toArray) : Words (w.alloc (.cells cs 83)) w.heap.size 0 L := by
  intro i hi
  rw [Nat.zero_add, ← ucs_at L i hi, h]
  have := World.cell?_alloc_mark w (ucs L).toArray 83 (0, 0) i
  rw [List.getElem?_toArray] at this
  exact this
theorem Words.drew {w : World} {b o : Nat} {L : List Nat} (h : Words w b o L) : Words w.drew b o L := h
theorem add_cast (a b : Nat) : ((a : Int) + (b : Int)) % 4294967296 = (((a + b) % 4294967296 : Nat) : Int) := by omega

set_option maxRecDepth 100000 in
set_option maxHeartbeats 2000000 in
theorem refBlock_any (H : List Nat) (B : List UInt8) (hb hc bb bo bc : Nat) (w : World) (hH : H.length = 8) (hB : B.length = 64) (hHl : ∀ i, H.getD i 0 < 4294967296) (hh : Words w hb 0 H) (hbb : Octets w bb bo B) (hhl : hb < w.heap.size) (hbl : bb < w.heap.size) :
    Calls Tryd.prog 53 #[.slice (some ⟨hb, 0, none⟩) 8 hc, .slice (some ⟨bb, bo, none⟩) 64 bc] w fun e w' => ∃ g cap, e = .returned (.slice (some ⟨g, 0, none⟩) 8 cap) ∧ Words w' g 0 (block H B) ∧ Below w.heap.size w w' ∧ w.heap.size ≤ g ∧ g < w'.heap.size := by
  go_enter Tryd.func53, Tryd.ntmps53
  go_wp2_with fail
  go_loopw [5, 6] (fun v i wr => ∃ j : Nat, j ≤ 16 ∧ i = .int .i64 j ∧ wr.ownsRow w.heap.size 83 1 v j (ucs ((List.range j).map (word0 B))) ∧ Below w.heap.size w wr) (fun _ i _ => 16 - (intOf i).toNat)
  case atStart => exact ⟨0, by omega, rfl, World.ownsRow_nil _ _ _ _, Below.refl _ _⟩
  case round =>
    obtain ⟨j, hj, rfl, hrow, hbw⟩ := hrel
    have hbs := hbw.size
    by_cases hlt : j < 16
    · obtain ⟨x0, hx0⟩ : ∃ x0 : Nat, (B.getD (4 * j) 0).toNat = x0 := ⟨_, rfl⟩
      obtain ⟨x1, hx1⟩ : ∃ x1 : Nat, (B.getD (4 * j + 1) 0).toNat = x1 := ⟨_, rfl⟩
      obtain ⟨x2, hx2⟩ : ∃ x2 : Nat, (B.getD (4 * j + 2) 0).toNat = x2 := ⟨_, rfl⟩
      obtain ⟨x3, hx3⟩ : ∃ x3 : Nat, (B.getD (4 * j + 3) 0).toNat = x3 := ⟨_, rfl⟩
      have hoct := hbb.below hbw hbl
      have c0 := hoct (4 * j) (by omega)
      have c1 := hoct (4 * j + 1) (by omega)
      have c2 := hoct (4 * j + 2) (by omega)
      have c3 := hoct (4 * j + 3) (by omega)
      rw [hx0] at c0
      rw [hx1] at c1
      rw [hx2] at c2
      rw [hx3] at c3
      have b0 : (0 : Int) ≤ 4 * (j : Int) := by omega
      have b1 : 4 * (j : Int) < 64 := by omega
      have b2 : (0 : Int) ≤ 4 * (j : Int) + 1 := by omega
      have b3 : 4 * (j : Int) + 1 < 64 := by omega
      have b4 : (0 : Int) ≤ 4 * (j : Int) + 2 := by omega
      have b5 : 4 * (j : Int) + 2 < 64 := by omega
      have b6 : (0 : Int) ≤ 4 * (j : Int) + 3 := by omega
      have b7 : 4 * (j : Int) + 3 < 64 := by omega
      have m0 : IntKind.i64.wrap (4 * (j : Int)) = 4 * (j : Int) := by rw [IntKind.wrap_i64]; omega
      have m1 : IntKind.i64.wrap (4 * (j : Int) + 1) = 4 * (j : Int) + 1 := by rw [IntKind.wrap_i64]; omega
      have m2 : IntKind.i64.wrap (4 * (j : Int) + 2) = 4 * (j : Int) + 2 := by rw [IntKind.wrap_i64]; omega
      have m3 : IntKind.i64.wrap (4 * (j : Int) + 3) = 4 * (j : Int) + 3 := by rw [IntKind.wrap_i64]; omega
      have n0 : (4 * (j : Int)).toNat = 4 * j := by omega
      have n1 : (4 * (j : Int) + 1).toNat = 4 * j + 1 := by omega
      have n2 : (4 * (j : Int) + 2).toNat = 4 * j + 2 := by omega
      have n3 : (4 * (j : Int) + 3).toNat = 4 * j + 3 := by omega
      have k0 : x0 < 256 := by rw [← hx0]; exact UInt8.toNat_lt _
      have k1 : x1 < 256 := by rw [← hx1]; exact UInt8.toNat_lt _
      have k2 : x2 < 256 := by rw [← hx2]; exact UInt8.toNat_lt _
      have k3 : x3 < 256 := by rw [← hx3]; exact UInt8.toNat_lt _
      have hM : (List.range (j + 1)).map (word0 B) = (List.range j).map (word0 B) ++ [word4 x0 x1 x2 x3] := by
        rw [List.range_succ, List.map_append, ← hx0, ← hx1, ← hx2, ← hx3]; rfl
      have HM := Lib.hid hM
      clear hoct hM hx0 hx1 hx2 hx3
      go_wp2_with fail
      go_region_held3 (fun w' => w'.cell? ⟨bb, bo + 4 * j, none⟩ = some (.int .u8 (x0 : Int)) ∧ w'.cell? ⟨bb, bo + (4 * j + 1), none⟩ = some (.int .u8 (x1 : Int)) ∧ w'.cell? ⟨bb, bo + (4 * j + 2), none⟩ = some (.int .u8 (x2 : Int)) ∧ w'.cell? ⟨bb, bo + (4 * j + 3), none⟩ = some (.int .u8 (x3 : Int)))
        (first
          | go_keep
          | (go_split_ands
             refine ⟨?_, ?_, ?_, ?_⟩
             · (rw [hb1.cell (p := ⟨bb, _, none⟩) hbl]; assumption)
             · (rw [hb1.cell (p := ⟨bb, _, none⟩) hbl]; assumption)
             · (rw [hb1.cell (p := ⟨bb, _, none⟩) hbl]; assumption)
             · (rw [hb1.cell (p := ⟨bb, _, none⟩) hbl]; assumption)))
        ((refine step_append_word (by rfl) _ _ (by rfl) (by rfl) ((hrow.alloc _).drew) (by simp; omega) (by omega) wr.heap.size (by rfl) (word4 x0 x1 x2 x3) (World.cell?_alloc_mark wr #[_] 83 (0, 0) 0) (word_bits x0 x1 x2 x3 k0 k1 k2 k3) HM.out ?_; intro g cap w1 hrow1 hb1))
      go_wp2_with fail
      exact ⟨⟨j + 1, by omega, by push_cast; rfl, hrow1, hbw.trans (((Below.refl _ _).alloc hbs _).drew.trans hb1)⟩, by simp [intOf]; omega⟩
    · obtain rfl : j = 16 := by omega
      go_wp2_with fail
      obtain ⟨W0, hW0⟩ : ∃ W0, W0 = (List.range 16).map (word0 B) := ⟨_, rfl⟩
      have hW0l : W0.length = 16 := by rw [hW0]; simp
      have hW0t : ∀ i, W0.getD i 0 < 4294967296 := by rw [hW0]; exact word0_lt B 16
      rw [← hW0] at hrow
      have HW0 := Lib.hid hW0
      clear hW0
      rw [show ((16 : Nat) : Int) = 16 from rfl]
      go_loopw [5, 7] (fun v i wr => ∃ (q m g cap : Nat), q = 16 + m ∧ m ≤ 48 ∧ i = .int .i64 (q : Int) ∧ v = .slice (some ⟨g, 0, none⟩) q cap ∧ wr.ownsRow w.heap.size 83 1 v q (ucs (extW m W0)) ∧ Below w.heap.size w wr) (fun _ i _ => 64 - (intOf i).toNat)
      case atStart =>
        obtain ⟨g, cap, rfl⟩ := ownsRow_succ hrow
        exact ⟨16, 0, g, cap, rfl, by omega, rfl, rfl, hrow, hbw⟩
      case round =>
        clear hrow hbw hbs
        obtain ⟨q, m, g, cap, hq, hm, rfl, rfl, hrow, hbw⟩ := hrel
        have hbs := hbw.size
        have hLl : (extW m W0).length = q := by rw [extW_length, hW0l, hq]
        have hwd := words_own hrow hLl
        have hLt := extW_lt m W0 hW0t
        by_cases hlt : m < 48
        · obtain ⟨x15, hx15⟩ : ∃ x : Nat, (extW m W0).getD (m + 1) 0 = x := ⟨_, rfl⟩
          obtain ⟨x2, hx2⟩ : ∃ x : Nat, (extW m W0).getD (m + 14) 0 = x := ⟨_, rfl⟩
          obtain ⟨x16, hx16⟩ : ∃ x : Nat, (extW m W0).getD m 0 = x := ⟨_, rfl⟩
          obtain ⟨x7, hx7⟩ : ∃ x : Nat, (extW m W0).getD (m + 9) 0 = x := ⟨_, rfl⟩
          have c15 := hwd (m + 1) (by omega)
          have c2 := hwd (m + 14) (by omega)
          have c16 := hwd m (by omega)
          have c7 := hwd (m + 9) (by omega)
          have l15 := hLt (m + 1)
          have l2 := hLt (m + 14)
          have l16 := hLt m
          have l7 := hLt (m + 9)
          rw [hx15] at c15 l15
          rw [hx2] at c2 l2
          rw [hx16] at c16 l16
          rw [hx7] at c7 l7
          simp only [Nat.zero_add] at c15 c2 c16 c7
          have hnext : extW (m + 1) W0 = extW m W0 ++ [(((x16 + sig0 x15) % 4294967296 + x7) % 4294967296 + sig1 x2) % 4294967296] := by
            rw [extW_succ, nextW, hLl, hq, show 16 + m - 16 = m by omega, show 16 + m - 15 = m + 1 by omega, show 16 + m - 7 = m + 9 by omega, show 16 + m - 2 = m + 14 by omega, hx15, hx2, hx16, hx7]
          have HN := Lib.hid hnext
          clear hnext hx15 hx2 hx16 hx7 hwd hLt hLl
          have w15 : IntKind.i64.wrap ((q : Int) - 15) = (q : Int) - 15 := by rw [IntKind.wrap_i64]; omega
          have p15 : (0 : Int) ≤ (q : Int) - 15 := by omega
          have r15 : (q : Int) - 15 < (q : Int) := by omega
          have t15 : ((q : Int) - 15).toNat = m + 1 := by omega
          have w2 : IntKind.i64.wrap ((q : Int) - 2) = (q : Int) - 2 := by rw [IntKind.wrap_i64]; omega
          have p2 : (0 : Int) ≤ (q : Int) - 2 := by omega
          have r2 : (q : Int) - 2 < (q : Int) := by omega
          have t2 : ((q : Int) - 2).toNat = m + 14 := by omega
          have w16 : IntKind.i64.wrap ((q : Int) - 16) = (q : Int) - 16 := by rw [IntKind.wrap_i64]; omega
          have p16 : (0 : Int) ≤ (q : Int) - 16 := by omega
          have r16 : (q : Int) - 16 < (q : Int) := by omega
          have t16 : ((q : Int) - 16).toNat = m := by omega
          have w7 : IntKind.i64.wrap ((q : Int) - 7) = (q : Int) - 7 := by rw [IntKind.wrap_i64]; omega
          have p7 : (0 : Int) ≤ (q : Int) - 7 := by omega
          have r7 : (q : Int) - 7 < (q : Int) := by omega
          have t7 : ((q : Int) - 7).toNat = m + 9 := by omega
          have hq64 : q < 64 := by omega
          have HQ := Lib.hid hq
          clear hq hlt hm
          go_upto_region 9 with fail
          have u15 : (15 : Int) ≤ (q : Int) := by omega
          have u2 : (2 : Int) ≤ (q : Int) := by omega
          have u16 : (16 : Int) ≤ (q : Int) := by omega
          have u7 : (7 : Int) ≤ (q : Int) := by omega
          go_quiet ((go_at_call 68; exact Calls.quiet_of (rotated_int _ _ _ (by assumption) (by omega) (by omega))))
          rw [show bits .xor .u32 (bits .xor .u32 ((rotr x15 7 : Nat) : Int) ((rotr x15 18 : Nat) : Int)) ((x15 : Int) / 8) = ((sig0 x15 : Nat) : Int) from sig0_bits x15 l15]
          have s0 := sig0_lt x15 l15
          generalize sig0 x15 = y0 at *
          have c2' : (wr.drewN nq).cell? ⟨g, m + 14, none⟩ = some (.int .u32 (x2 : Int)) := by simpa using c2
          have c16' : (wr.drewN nq).cell? ⟨g, m, none⟩ = some (.int .u32 (x16 : Int)) := by simpa using c16
          have c7' : (wr.drewN nq).cell? ⟨g, m + 9, none⟩ = some (.int .u32 (x7 : Int)) := by simpa using c7
          have hbd := below_drewN hbw nq
          have hrd : (wr.drewN nq).ownsRow w.heap.size 83 1 (.slice (some ⟨g, 0, none⟩) q cap) q (ucs (extW m W0)) := hrow
          clear c15 c2 c16 c7 hrow hbw
          obtain ⟨wd, hwd⟩ : ∃ wd, wr.drewN nq = wd := ⟨_, rfl⟩
          rw [hwd] at c2' c16' c7' hbd hrd ⊢
          clear hwd
          go_wp2_with fail
          go_quiet ((go_at_call 68; exact Calls.quiet_of (rotated_int _ _ _ (by assumption) (by omega) (by omega))))
          rw [show bits .xor .u32 (bits .xor .u32 ((rotr x2 17 : Nat) : Int) ((rotr x2 19 : Nat) : Int)) ((x2 : Int) / 1024) = ((sig1 x2 : Nat) : Int) from sig1_bits x2 l2]
          have s1 := sig1_lt x2 l2
          generalize sig1 x2 = y1 at *
          go_wp2_with fail
          have d16 : (wd.drewN nq).cell? ⟨g, m, none⟩ = some (.int .u32 (x16 : Int)) := by simpa using c16'
          have d7 : (wd.drewN nq).cell? ⟨g, m + 9, none⟩ = some (.int .u32 (x7 : Int)) := by simpa using c7'
          have hbe := below_drewN hbd nq
          have hre : (wd.drewN nq).ownsRow w.heap.size 83 1 (.slice (some ⟨g, 0, none⟩) q cap) q (ucs (extW m W0)) := hrd
          clear c2' c16' c7' hrd hbd
          obtain ⟨we, hwe⟩ : ∃ we, wd.drewN nq = we := ⟨_, rfl⟩
          rw [hwe] at d16 d7 hbe hre ⊢
          clear hwe
          have hes := hbe.size
          go_region_law
            ((refine step_append_word (by rfl) _ _ (by rfl) (by rfl) ((hre.alloc _).drew) (by simp; omega) (by omega) we.heap.size (by rfl) ((((x16 + y0) % 4294967296 + x7) % 4294967296 + y1) % 4294967296) (World.cell?_alloc_mark we #[_] 83 (0, 0) 0) (by simp only [IntKind.wrap_u32]; omega) HN.out ?_; intro g' cap' w1 hrow1 hb1))
          all_goals
            go_wp2_with fail
            have hq := HQ.out
            exact ⟨⟨q + 1, m + 1, g', cap', by omega, by omega, by push_cast; rfl, rfl, hrow1, hbe.trans (((Below.refl _ _).alloc hes _).drew.trans hb1)⟩, by simp [intOf]; omega⟩
        · obtain rfl : m = 48 := by omega
          obtain rfl : q = 64 := by omega
          clear hlt hLt
          obtain ⟨W, hW⟩ : ∃ W, extW 48 W0 = W := ⟨_, rfl⟩
          have hWt : ∀ i, W.getD i 0 < 4294967296 := by rw [← hW]; exact extW_lt 48 W0 hW0t
          have hWs : W = sched B := by rw [← hW, HW0.out]; rfl
          rw [hW] at hwd hrow hLl
          have HWS := Lib.hid hWs
          have HWT := Lib.hid hWt
          have HWD := Lib.hid hwd
          clear hW hWt hWs hwd hW0l hW0t hq hm HW0
          rw [show ((64 : Nat) : Int) = 64 from rfl]
          go_wp2_with fail
          refine (constants_any _).mono ?_
          rintro e w2 ⟨c, rfl, hk, hb2⟩
          have HK := Lib.hid hk
          clear hk
          have hhw := hh.below (hbw.trans (hb2.mono hbs)) hhl
          have hbw2 : Below w.heap.size w w2 := hbw.trans (hb2.mono hbs)
          have hbs2 := hbw2.size
          have hgl := (hrow.lt g rfl)
          have hnil : w2.ownsRow w2.heap.size 83 1 (.slice none 0 0) 0 (ucs []) := World.ownsRow_nil _ _ _ _
          have hwd2 := (HWD.out).below hb2 hgl.2
          have hk2 := HK.out
          clear hrow
          have hgl2 : g < w2.heap.size := Nat.lt_of_lt_of_le hgl.2 hb2.size
          have hkl2 : wr.heap.size < w2.heap.size := by
            have h := hk2 0 (by omega)
            exact World.block_lt_of_cell? _ _ h
          clear hk2
          obtain ⟨kb, hkb⟩ : ∃ kb, wr.heap.size = kb := ⟨_, rfl⟩
          rw [hkb] at HK hkl2 ⊢
          clear hkb
          go_wp2_with (at_builtin; refine append_words rfl _ _ rfl rfl hnil (Nat.le_refl _) (by omega) rfl hhw hH (by omega) (by omega) (M := H) rfl ?_; intro gv cv w3 hown3 hb3 hgv0 hgv1)
          have hv3 : Words w3 gv 0 H := words_own hown3 hH
          have hwd3 := hwd2.below hb3 hgl2
          have hk3 : ∀ i, i < 64 → w3.cell? ⟨kb, i, none⟩ = some (.int .u32 ((shaK.getD i 0 : Nat) : Int)) := fun i hi => (hb3.cell (p := ⟨kb, i, none⟩) hkl2).trans (HK.out i hi)
          have hs3 := hb3.size
          have hbw3 : Below w.heap.size w w3 := hbw2.trans (hb3.mono hbs2)
          have hkl3 : kb < w3.heap.size := by omega
          have hgl3 : g < w3.heap.size := by omega
          have HWD3 := Lib.hid hwd3
          have HK3 := Lib.hid hk3
          have HV3 := Lib.hid hv3
          clear hwd3 hk3 hv3 hown3 hwd2 HWD HK hnil
          go_loopw [11, 12] (fun v i wx => ∃ (n gx cx : Nat), n ≤ 64 ∧ i = .int .i64 n ∧ v = .slice (some ⟨gx, 0, none⟩) 8 cx ∧ Words wx gx 0 (rounds W H n) ∧ gx < wx.heap.size ∧ Below w3.heap.size w3 wx) (fun _ i _ => 64 - (intOf i).toNat)
          case atStart => exact ⟨0, gv, cv, by omega, rfl, rfl, HV3.out, hgv1, Below.refl _ _⟩
          case round =>
            obtain ⟨n, gx, cx, hn, rfl, rfl, hwv, hgx, hbx⟩ := hrel
            have hVt := rounds_lt HWT.out hHl n
            by_cases hlt : n < 64
            · obtain ⟨V, hV⟩ : ∃ V, rounds W H n = V := ⟨_, rfl⟩
              rw [hV] at hwv hVt
              have hVl : V.length = 8 := by rw [← hV]; exact rounds_length hH n
              have hst : rounds W H (n + 1) = step V (shaK.getD n 0) (W.getD n 0) := by rw [← hV]; rfl
              have cK := (hbx.cell (p := ⟨kb, n, none⟩) hkl3).trans (HK3.out n hlt)
              have cW : wr.cell? ⟨g, n, none⟩ = some (.int .u32 ((W.getD n 0 : Nat) : Int)) := by
                have h := HWD3.out n (by rw [HWS.out]; simp [sched, extW_length]; omega)
                rw [Nat.zero_add] at h
                exact (hbx.cell (p := ⟨g, n, none⟩) hgl3).trans h
              obtain ⟨k, hk⟩ : ∃ k, shaK.getD n 0 = k := ⟨_, rfl⟩
              obtain ⟨y, hy⟩ : ∃ y, W.getD n 0 = y := ⟨_, rfl⟩
              rw [hk] at cK hst
              rw [hy] at cW hst
              have hkt : k < 4294967296 := by rw [← hk]; exact shaK_lt n
              have hyt : y < 4294967296 := by rw [← hy]; exact HWT.out n
              rw [step_eq] at hst
              have HST := Lib.hid hst
              clear hk hy hst hV
              have v0 := hwv 0 (by omega)
              have v1 := hwv 1 (by omega)
              have v2 := hwv 2 (by omega)
              have v3 := hwv 3 (by omega)
              have v4 := hwv 4 (by omega)
              have v5 := hwv 5 (by omega)
              have v6 := hwv 6 (by omega)
              have v7 := hwv 7 (by omega)
              have t0 := hVt 0
              have t1 := hVt 1
              have t2 := hVt 2
              have t3 := hVt 3
              have t4 := hVt 4
              have t5 := hVt 5
              have t6 := hVt 6
              have t7 := hVt 7
              have HVL := Lib.hid hVl
              clear hVt hwv hVl
              generalize V.getD 0 0 = x0 at *
              generalize V.getD 1 0 = x1 at *
              generalize V.getD 2 0 = x2 at *
              generalize V.getD 3 0 = x3 at *
              generalize V.getD 4 0 = x4 at *
              generalize V.getD 5 0 = x5 at *
              generalize V.getD 6 0 = x6 at *
              generalize V.getD 7 0 = x7 at *
              simp only [Nat.zero_add] at v0 v1 v2 v3 v4 v5 v6 v7
              go_wp2_with fail
              have n0 : (0 : Int) ≤ (n : Int) := by omega
              have n1 : (n : Int) < 64 := by omega
              go_quiet ((go_at_call 68; exact Calls.quiet_of (rotated_int _ _ _ (by assumption) (by omega) (by omega))))
              rw [tee_bits x4 x5 x6 x7 k y t4 t5 t6]
              have htt := teeX_lt x4 x5 x6 x7 k y
              generalize teeX x4 x5 x6 x7 k y = t at *
              obtain ⟨wd, hwd⟩ : ∃ wd, wr.drewN nq = wd := ⟨_, rfl⟩
              have c0 : wd.cell? ⟨gx, 0, none⟩ = some (.int .u32 (x0 : Int)) := by rw [← hwd]; simpa using v0
              have c1 : wd.cell? ⟨gx, 1, none⟩ = some (.int .u32 (x1 : Int)) := by rw [← hwd]; simpa using v1
              have c2 : wd.cell? ⟨gx, 2, none⟩ = some (.int .u32 (x2 : Int)) := by rw [← hwd]; simpa using v2
              have c3 : wd.cell? ⟨gx, 3, none⟩ = some (.int .u32 (x3 : Int)) := by rw [← hwd]; simpa using v3
              have c5 : wd.cell? ⟨gx, 5, none⟩ = some (.int .u32 (x5 : Int)) := by rw [← hwd]; simpa using v5
              have c6 : wd.cell? ⟨gx, 6, none⟩ = some (.int .u32 (x6 : Int)) := by rw [← hwd]; simpa using v6
              have hbd : Below w3.heap.size w3 wd := by rw [← hwd]; exact below_drewN hbx nq
              have hgd : gx < wd.heap.size := by rw [← hwd]; simpa using hgx
              rw [hwd]
              clear hwd v0 v1 v2 v3 v4 v5 v6 v7 cK cW hbx hgx
              go_wp2_with fail
              go_quiet ((go_at_call 68; exact Calls.quiet_of (rotated_int _ _ _ (by assumption) (by omega) (by omega))))
              rw [you_bits x0 x1 x2 t0 t1 t2]
              have hyy := youX_lt x0 x1 x2
              generalize youX x0 x1 x2 = u at *
              obtain ⟨we, hwe⟩ : ∃ we, wd.drewN nq = we := ⟨_, rfl⟩
              have d1 : we.cell? ⟨gx, 1, none⟩ = some (.int .u32 (x1 : Int)) := by rw [← hwe]; simpa using c1
              have d2 : we.cell? ⟨gx, 2, none⟩ = some (.int .u32 (x2 : Int)) := by rw [← hwe]; simpa using c2
              have d3 : we.cell? ⟨gx, 3, none⟩ = some (.int .u32 (x3 : Int)) := by rw [← hwe]; simpa using c3
              have d5 : we.cell? ⟨gx, 5, none⟩ = some (.int .u32 (x5 : Int)) := by rw [← hwe]; simpa using c5
              have d6 : we.cell? ⟨gx, 6, none⟩ = some (.int .u32 (x6 : Int)) := by rw [← hwe]; simpa using c6
              have hbe : Below w3.heap.size w3 we := by rw [← hwe]; exact below_drewN hbd nq
              rw [hwe]
              clear hwe c0 c1 c2 c3 c5 c6 hbd hgd
              go_wp2_with fail
              go_region_held3 (fun w' => w'.cell? ⟨gx, 1, none⟩ = some (.int .u32 (x1 : Int)) ∧ w'.cell? ⟨gx, 2, none⟩ = some (.int .u32 (x2 : Int)) ∧ w'.cell? ⟨gx, 3, none⟩ = some (.int .u32 (x3 : Int)) ∧ w'.cell? ⟨gx, 5, none⟩ = some (.int .u32 (x5 : Int)) ∧ w'.cell? ⟨gx, 6, none⟩ = some (.int .u32 (x6 : Int))) (go_keep) (fail)
              go_wp2_with fail
              have hes := hbe.size
              exact ⟨⟨n + 1, we.heap.size, 8, by omega, by push_cast; rfl, rfl, by rw [HST.out]; exact (words_alloc we _ _ (by simp only [ucs, List.map_cons, List.map_nil, add_cast])).drew, by simp, (hbe.alloc hes _).drew⟩, by simp [intOf]; omega⟩
            · obtain rfl : n = 64 := by omega
              rw [show ((64 : Nat) : Int) = 64 from rfl]
              obtain ⟨wo, rfl⟩ : ∃ wo : World, wo = wr := ⟨_, rfl⟩
              have hhx : Words wo hb 0 H := hh.below (hbw3.trans (hbx.mono hbw3.size)) hhl
              have hbwx := hbw3.trans (hbx.mono hbw3.size)
              obtain ⟨V, hV⟩ : ∃ V, rounds W H 64 = V := ⟨_, rfl⟩
              have hVl : V.length = 8 := by rw [← hV]; exact rounds_length hH 64
              have hfin : block H B = (List.range 8).map fun i => (H.getD i 0 + V.getD i 0) % 4294967296 := by rw [← hV, HWS.out]; rfl
              rw [hV] at hwv hVt
              have HF := Lib.hid hfin
              have hhx2 := hhl
              have hhl' : hb < wo.heap.size := Nat.lt_of_lt_of_le hhl hbwx.size
              have HHX := Lib.hid hhx
              have HWV := Lib.hid hwv
              have HH8 := Lib.hid hH
              have HV8 := Lib.hid hVl
              have hbs4 := hbwx.size
              clear hV hfin hhx hwv hH hVl hVt hlt hn HWD3 HK3 HV3 hbb hb3 hb2 HWS HWT hHl
              go_wp2_with fail
              go_loopw [17, 18] (fun v i wx => ∃ (j : Nat), j ≤ 8 ∧ i = .int .i64 j ∧ wx.ownsRow wo.heap.size 83 1 v j (ucs ((List.range j).map fun i => (H.getD i 0 + V.getD i 0) % 4294967296)) ∧ Below wo.heap.size wo wx) (fun _ i _ => 8 - (intOf i).toNat)
              case atStart => exact ⟨0, by omega, rfl, World.ownsRow_nil _ _ _ _, Below.refl _ _⟩
              case round =>
                obtain ⟨j, hj, rfl, hrow, hby⟩ := hrel
                have hbsy := hby.size
                by_cases hlt : j < 8
                · have ch := (HHX.out.below hby hhl') j (by rw [HH8.out]; exact hlt)
                  have cv := (HWV.out.below hby hgx) j (by rw [HV8.out]; exact hlt)
                  rw [Nat.zero_add] at ch cv
                  have hM : (List.range (j + 1)).map (fun i => (H.getD i 0 + V.getD i 0) % 4294967296) = (List.range j).map (fun i => (H.getD i 0 + V.getD i 0) % 4294967296) ++ [(H.getD j 0 + V.getD j 0) % 4294967296] := by
                    rw [List.range_succ, List.map_append]; rfl
                  have HM := Lib.hid hM
                  clear hM
                  generalize H.getD j 0 = x at *
                  generalize V.getD j 0 = y at *
                  have n0 : (0 : Int) ≤ (j : Int) := by omega
                  have n1 : (j : Int) < 8 := by omega
                  go_wp2_with fail
                  go_region_law
                    ((refine step_append_word (by rfl) _ _ (by rfl) (by rfl) ((hrow.alloc _).drew) (by simp; omega) (by omega) wr.heap.size (by rfl) ((x + y) % 4294967296) (World.cell?_alloc_mark wr #[_] 83 (0, 0) 0) (by simp only [IntKind.wrap_u32]; omega) HM.out ?_; intro g' cap' w1 hrow1 hb1))
                  all_goals
                    go_wp2_with fail
                    exact ⟨⟨j + 1, by omega, by push_cast; rfl, hrow1, hby.trans (((Below.refl _ _).alloc hbsy _).drew.trans hb1)⟩, by simp [intOf]; omega⟩
                · obtain rfl : j = 8 := by omega
                  obtain ⟨gz, cz, rfl⟩ := ownsRow_succ hrow
                  have hz := hrow.lt gz rfl
                  have hwz := words_own hrow (by simp)
                  rw [← HF.out] at hwz
                  have HWZ := Lib.hid hwz
                  clear hwz hrow HF HHX HWV HH8 HV8
                  go_wp2_with fail
                  go_ret
                  exact ⟨gz, cz, rfl, HWZ.out, hbwx.trans (hby.mono hbs4), by omega, hz.2⟩
end Go.Proofs.YtkihcigojhcmgaaDoor
