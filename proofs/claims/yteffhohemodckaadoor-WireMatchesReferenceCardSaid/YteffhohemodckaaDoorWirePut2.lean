/- What PutInt of package wire comes to: for every integer that has an encoding its bytes, else the error; nothing that lay before the call is turned. -/
import Derived.Test.YteffhohemodckaaDoorWirePut
import Derived.Test.YteffhohemodckaaDoorBytes
namespace Go.Proofs.YteffhohemodckaaDoor
open Go.RowKit Go.Shelf

attribute [local go_sem] Oper.semAt_some

theorem groups_in (n : Nat) (z : Int) (w : World) :
    CallsIn Fence.wide n Tryd.prog 23 #[.int .u64 z] w fun e w' => e = .returned (.func (.func 25) #[] #[.pointer (some ⟨w.heap.size, 0, none⟩)]) ∧ w' = w.alloc (.cells #[.int .u64 z] 49) := by
  refine callsIn_of_wp Tryd.func23 rfl trivial ?_ rfl
  simp only [Tryd.ntmps23, List.size_toArray, List.length_cons, List.length_nil, Nat.reduceAdd, Nat.reduceSub, Array.replicate_succ, Array.replicate_zero, List.push_toArray, List.append_toArray, List.nil_append, List.cons_append]
  gi_wp2
  go_ret
  exact ⟨rfl, rfl⟩

theorem wrap64u_id {n : Int} (h0 : 0 ≤ n) (h1 : n < 18446744073709551616) : IntKind.u64.wrap n = n := by rw [IntKind.wrap_u64]; omega
theorem xor_ones (a : Nat) (h : a < 18446744073709551616) : (a ^^^ 18446744073709551615 : Nat) = 18446744073709551615 - a := by
  have e : (BitVec.ofNat 64 a ^^^ BitVec.allOnes 64).toNat = (~~~ (BitVec.ofNat 64 a)).toNat := by rw [BitVec.xor_allOnes]
  rw [BitVec.toNat_xor, BitVec.toNat_not, BitVec.toNat_allOnes, BitVec.toNat_ofNat] at e
  have : a % 2 ^ 64 = a := Nat.mod_eq_of_lt (by omega)
  rw [this] at e
  omega
/-- The number that PutInt makes of n by a shift and an exclusive or. -/
theorem zig_bits (c : Int) (h0 : -4611686018427387903 ≤ c) (h1 : c ≤ 4611686018427387903) :
    bits BinOp.xor IntKind.u64 (IntKind.u64.wrap (IntKind.u64.wrap c * 2)) (IntKind.u64.wrap (c / 9223372036854775808)) = ((zig c : Nat) : Int) := by
  by_cases h : c < 0
  · have e1 : IntKind.u64.wrap (IntKind.u64.wrap c * 2) = ((2 * c + 18446744073709551616).toNat : Nat) := by rw [IntKind.wrap_u64, IntKind.wrap_u64]; omega
    have e2 : IntKind.u64.wrap (c / 9223372036854775808) = ((18446744073709551615 : Nat) : Int) := by rw [IntKind.wrap_u64]; omega
    rw [e1, e2, bits_xor_u64_nat _ _ (by omega) (by omega), xor_ones _ (by omega)]
    unfold zig; rw [if_pos h]; omega
  · have e1 : IntKind.u64.wrap (IntKind.u64.wrap c * 2) = ((2 * c).toNat : Nat) := by rw [IntKind.wrap_u64, IntKind.wrap_u64]; omega
    have e2 : IntKind.u64.wrap (c / 9223372036854775808) = ((0 : Nat) : Int) := by rw [IntKind.wrap_u64]; omega
    rw [e1, e2, bits_xor_u64_nat _ _ (by omega) (by omega), Nat.xor_zero]
    unfold zig; rw [if_neg h]

theorem nat_or_128 {r : Nat} (h : r < 128) : r ||| 128 = r + 128 := by
  have := nat_join 7 128 r (by decide) (by omega)
  rw [Nat.or_comm, this]; omega
theorem grp_or (x : Nat) (h : ¬ x < 128) : bits .or .u8 ((x : Int) % 128) 128 = ((grp x).toNat : Int) := by
  have e : ((x : Int) % 128) = ((x % 128 : Nat) : Int) := by omega
  rw [e, show (128 : Int) = ((128 : Nat) : Int) from rfl, u8_or_nat _ _ (by omega) (by omega), nat_or_128 (by omega)]
  have : (grp x).toNat = x % 128 + 128 := by simp only [grp, if_neg h]; exact ofNat_toNat8 (by omega)
  rw [this]

theorem Tryd.infoU8 : (Tryd.prog.info? 5).map (fun i => (i.zero, i.size, i.bytes)) = some (some (.int .u8 0), 1, 1) := by kernel_rfl

set_option maxRecDepth 100000 in
set_option maxHeartbeats 2000000 in
theorem putInt_in (c : Int) (w : World) (h0 : -4611686018427387903 ≤ c) (h1 : c ≤ 4611686018427387903) :
    CallsIn Fence.wide 5 Tryd.prog 12 #[.int .i64 c] w fun e w' => e = .returned (.tuple #[.string ⟨(enc c).toArray⟩, .int .i64 0]) ∧ Below w.heap.size w w' := by
  obtain ⟨i0, hi, hz0, hz1, hz2⟩ := info_parts Tryd.infoU8
  refine callsIn_of_wp_marks Tryd.func12 rfl trivial ?_ rfl
  simp only [Tryd.ntmps12, List.size_toArray, List.length_cons, List.length_nil, Nat.reduceAdd, Nat.reduceSub, Array.replicate_succ, Array.replicate_zero, List.push_toArray, List.append_toArray, List.nil_append, List.cons_append]
  gi_wp2_with fail
  rw [zig_bits c h0 h1]
  have hz := zig_lt h0 h1
  generalize hzc : zig c = z at *
  refine ⟨trivial, ?_⟩
  refine (groups_in 4 _ _).mono ?_
  rintro e w1 ⟨rfl, rfl⟩
  gi_wp2_with fail
  have bO := (Boxed.new w 38 (.slice none 0 0)).alloc (.cells #[.int .u64 z] 49)
  have bN := Boxed.new (w.alloc (.cells #[.slice none 0 0] 38)) 49 (.int .u64 z)
  rw [World.size_alloc] at bN
  have hB0 : Below w.heap.size w ((w.alloc (.cells #[.slice none 0 0] 38)).alloc (.cells #[.int .u64 z] 49)) := ((Below.refl _ w).alloc (Nat.le_refl _) _).alloc (by simp) _
  have hsz : ((w.alloc (.cells #[.slice none 0 0] 38)).alloc (.cells #[.int .u64 z] 49)).heap.size = w.heap.size + 2 := by simp
  obtain ⟨W0, hW0⟩ : ∃ W0, (w.alloc (.cells #[.slice none 0 0] 38)).alloc (.cells #[.int .u64 z] 49) = W0 := ⟨_, rfl⟩
  rw [hW0] at bO bN hB0 hsz ⊢
  clear hW0
  refine wpIn_range (F := Fence.wide) (n := 5) rfl (by omega) (gf := 25) (lb := #[.pointer (some ⟨w.heap.size + 1, 0, none⟩)]) rfl trivial (enters_of Tryd.func25 (by kernel_rfl) rfl)
    (groups1_in 4 (by omega) (w.heap.size + 1) z (by omega)) (SetsBox.cells _) ?pre ?kt ?kb (fun _ => rfl)
    (fun pre W => (∃ v, Boxed W w.heap.size 38 v ∧ W.ownsRow w.heap.size 5 1 v pre.length (bcs (pre.map grp)) ∧ True) ∧ (∃ u, Boxed W (w.heap.size + 1) 49 u) ∧ Below w.heap.size w W)
    (fun _ _ _ => False) ?own ?ownx ?wr ?wrx ?start ?round ?done ?stop
  case pre =>
    intro W hb
    exact ⟨(hb.cell (p := ⟨w.heap.size + 1, 0, none⟩) (by simp; omega)).trans bN.cell, (hb.frozen (p := ⟨w.heap.size + 1, 0, none⟩) (by simp; omega)).trans bN.frozen⟩
  case kt =>
    intro X Y Z h k
    exact ⟨k.1.trans h.1, k.2.trans h.2⟩
  case kb =>
    intro W l o o' hl ho hc
    have hne : (w.heap.size + 1 : Nat) ≠ l := by omega
    exact ⟨World.cell?_of_block (World.putObj_heap_other hne), World.frozen?_of_block (World.putObj_heap_other hne)⟩
  case own =>
    exact OwnFrom.and (Own.from (holdsRow_own w.heap.size w.heap.size 38 5 1 (fun pre : List Nat => pre.length) (fun pre => bcs (pre.map grp)) (fun _ _ => True)) _) (OwnFrom.and (ownFrom_box _ _ _) (ownFrom_below (Nat.le_refl _) (by omega)))
  case ownx => exact fun _ _ _ _ _ hs _ _ => hs
  case wr =>
    rintro s X Y ⟨⟨v, hv, hrow, _⟩, ⟨u, hu⟩, hB⟩ ⟨u', rfl⟩
    exact ⟨⟨v, hv.other (by omega) _, ownsRow_setBox hrow hu (by decide) _, trivial⟩, ⟨_, hu.set u'⟩, below_setBox hB (by omega) _⟩
  case wrx => exact fun _ _ _ _ hs _ => hs
  case start => exact ⟨⟨_, bO, World.ownsRow_nil _ _ _ _, trivial⟩, ⟨_, bN⟩, hB0⟩
  case round =>
    rintro l pre x W hI hlen
    gi_wp2
    refine ⟨KeepsFrom.refl _ _, ⟨rfl, rfl⟩, hI, ?_⟩
    clear hI
    rintro V hvc hvf hvs ⟨⟨v, hv, hrow, _⟩, ⟨u, hu⟩, hB⟩
    clear hvc hvf hvs
    have hc := hv.cell
    have hN : pre.length < 10 := hlen
    by_cases hx : x < 128
    · have hd : decide (x < 128) = true := by simp [hx]
      have hg : (x : Int) % 128 = ((grp x).toNat : Int) := by simp [grp, hx]; omega
      gi_wp2_with (gi_at_builtin; refine wpListIn_append_own _ rfl _ _ 38 rfl w.heap.size 5 i0 (.int .u8 0) 1 1 Tryd.underlying38 hi hz0 hz1 hz2 rfl (by decide) _ _ _ rfl (hrow.alloc _) ⟨V.heap.size, 0, none⟩ 1 1 [.int .u8 ((grp x).toNat : Int)] rfl rfl (cell_one_new _ _ _) (by simp [Value.oneCell']) (by unfold maxLen; omega) (by omega) (by have := hB.size; simp; omega) ?_; intro v' w1 hown' hgrow _; obtain ⟨g', cap', rfl⟩ := ownsRow_succ hown'; obtain ⟨hv1, hv2, hr2, hk2, hb2⟩ := hv.appended (by decide) hrow hB.size (Nat.le_refl _) hown' hgrow; have hc1 := hv1.cell; have hf1 := hv1.frozen)
      have hu2 : Boxed (w1.setCell ⟨w.heap.size, 0, none⟩ (.slice (some ⟨g', 0, none⟩) (pre.length + 1) cap')) (w.heap.size + 1) 49 u := ((hu.alloc _).kept hgrow (hu.not_row (by decide) hrow)).other (by omega) _
      exact ⟨hk2.from _, ⟨hu2.cell.trans hu.cell.symm, hu2.frozen.trans hu.frozen.symm⟩, ⟨_, hv2, by simpa [bcs] using hr2, trivial⟩, ⟨_, hu2⟩, hB.trans hb2⟩
    · have hd : decide (x < 128) = false := by simp [hx]
      have hg : bits .or .u8 ((x : Int) % 128) 128 = ((grp x).toNat : Int) := grp_or x hx
      gi_wp2_with (gi_at_builtin; refine wpListIn_append_own _ rfl _ _ 38 rfl w.heap.size 5 i0 (.int .u8 0) 1 1 Tryd.underlying38 hi hz0 hz1 hz2 rfl (by decide) _ _ _ rfl (hrow.alloc _) ⟨V.heap.size, 0, none⟩ 1 1 [.int .u8 ((grp x).toNat : Int)] rfl rfl (cell_one_new _ _ _) (by simp [Value.oneCell']) (by unfold maxLen; omega) (by omega) (by have := hB.size; simp; omega) ?_; intro v' w1 hown' hgrow _; obtain ⟨g', cap', rfl⟩ := ownsRow_succ hown'; obtain ⟨hv1, hv2, hr2, hk2, hb2⟩ := hv.appended (by decide) hrow hB.size (Nat.le_refl _) hown' hgrow; have hc1 := hv1.cell; have hf1 := hv1.frozen)
      have hu2 : Boxed (w1.setCell ⟨w.heap.size, 0, none⟩ (.slice (some ⟨g', 0, none⟩) (pre.length + 1) cap')) (w.heap.size + 1) 49 u := ((hu.alloc _).kept hgrow (hu.not_row (by decide) hrow)).other (by omega) _
      exact ⟨hk2.from _, ⟨hu2.cell.trans hu.cell.symm, hu2.frozen.trans hu.frozen.symm⟩, ⟨_, hv2, by simpa [bcs] using hr2, trivial⟩, ⟨_, hu2⟩, hB.trans hb2⟩
  case done =>
    rintro D ys W hD rfl ⟨⟨v, hv, hrow, _⟩, _, hB⟩ hK
    have hc := hv.cell
    have hrow' : W.ownsRow w.heap.size 5 1 v ((chain 10 z).map grp).length (bcs ((chain 10 z).map grp)) := by simpa using hrow
    have hcv := convert_owned (P := Tryd.prog) (src := 38) (dst := 9) Tryd.underlying38 Tryd.underlying5 Tryd.underlying9 hrow'
    have hout : (chain 10 z).map grp = enc c := by
      rw [chain_leb, enc, hzc]; exact leb_fuel 9 10 z (by omega) (by omega) (by omega)
    gi_wp2
    refine ⟨by simp, .inl ⟨_, _, rfl, run_takeDeferred hK, ?_⟩⟩
    refine ⟨_, results_tmp2 rfl _ _ _, ?_, hB.trans (belowK_b (w := w) (Nat.le_refl _) W D _ _ (by omega) hK rfl rfl)⟩
    rw [← hout]; rfl
  case stop =>
    rintro D c pre W _ _ h _
    exact h.elim

/-- PutInt of an integer that has an encoding. -/
theorem putInt_any (c : Int) (w : World) (h0 : -4611686018427387903 ≤ c) (h1 : c ≤ 4611686018427387903) :
    Calls Tryd.prog 12 #[.int .i64 c] w fun e w' => e = .returned (.tuple #[.string ⟨(enc c).toArray⟩, .int .i64 0]) ∧ Below w.heap.size w w' :=
  callsIn_wide.1 (putInt_in c w h0 h1)

set_option maxHeartbeats 1000000 in
/-- PutInt of another one. -/
theorem putInt_no (c : Int) (w : World) (h : c < -4611686018427387903 ∨ 4611686018427387903 < c) :
    Calls Tryd.prog 12 #[.int .i64 c] w fun e w' => e = .returned (.tuple #[.string ⟨#[]⟩, .int .i64 10]) ∧ w = w' := by
  by_cases h1 : c < -4611686018427387903
  · go_enter Tryd.func12, Tryd.ntmps12
    go_wp2_with fail
    go_ret2
    exact ⟨rfl, rfl⟩
  · have h2 : 4611686018427387903 < c := by omega
    go_enter Tryd.func12, Tryd.ntmps12
    go_wp2_with fail
    go_ret2
    exact ⟨rfl, rfl⟩
end Go.Proofs.YteffhohemodckaaDoor
