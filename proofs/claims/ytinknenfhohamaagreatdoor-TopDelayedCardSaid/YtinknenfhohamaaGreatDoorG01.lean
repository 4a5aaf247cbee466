/- A stable sort of places by their times, as plain mathematics: insertion, the merge of two sorted halves by a symmetric split. No program in sight. A row of places in memory, and an exchange of two of them. swapRange of the library's sort: two blocks of a row of the same length are exchanged. rotate of the library's sort: two neighbouring blocks of a row are exchanged. -/
import Derived.Lib.Hide
import Derived.Test.YtinknenfhohamaaGreatDoorRows
import Derived.WalkKit
import Derived.LoopTactic
import Derived.ProofKit
import Derived.BigRegion
import Derived.BigQuiet
import Derived.Deep.QuietTactic
import Derived.OwnWalk
import Derived.Outline
import Derived.Deep.DeepCutAuto
import Derived.Deep.CutBlock
import Derived.Deep.Quiet
import Derived.Deep.Draws
import Derived.Shelf.Abstract
namespace Go.Proofs.YtinknenfhohamaaGreatDoor

/-- One place stands before another: by its time, and of one time by its number. -/
def Bf (t : Nat → Int) (i j : Nat) : Prop := t i < t j ∨ (t i = t j ∧ i < j)
theorem Bf.trans {t : Nat → Int} {i j k : Nat} (h1 : Bf t i j) (h2 : Bf t j k) : Bf t i k := by unfold Bf at *; omega
theorem Bf.irrefl {t : Nat → Int} {i : Nat} (h : Bf t i i) : False := by unfold Bf at h; omega
theorem Bf.le {t : Nat → Int} {i j : Nat} (h : Bf t i j) : t i ≤ t j := by unfold Bf at h; omega
def Srt (t : Nat → Int) (S : List Nat) : Prop := S.Pairwise (Bf t)
/-- Every place of one list has a smaller number than every place of another. -/
def Low (L R : List Nat) : Prop := ∀ x ∈ L, ∀ y ∈ R, x < y
theorem srt_append {t : Nat → Int} {L R : List Nat} : Srt t (L ++ R) ↔ Srt t L ∧ Srt t R ∧ ∀ x ∈ L, ∀ y ∈ R, Bf t x y := List.pairwise_append
theorem srt_perm_eq {t : Nat → Int} {L R : List Nat} (hp : L.Perm R) (h1 : Srt t L) (h2 : Srt t R) : L = R :=
  hp.eq_of_pairwise (fun _ _ _ _ h3 h4 => (Bf.irrefl (h3.trans h4)).elim) h1 h2
theorem srt_last {t : Nat → Int} {L : List Nat} {y : Nat} (h : Srt t (L ++ [y])) : ∀ x ∈ L ++ [y], t x ≤ t y := by
  intro x hx
  rcases List.mem_append.1 hx with hx | hx
  · exact ((srt_append.1 h).2.2 x hx y (by simp)).le
  · rw [List.mem_singleton.1 hx]; exact Int.le_refl _
theorem srt_first {t : Nat → Int} {L : List Nat} {y : Nat} (h : Srt t (y :: L)) : ∀ x ∈ y :: L, t y ≤ t x := by
  intro x hx
  rcases List.mem_cons.1 hx with rfl | hx
  · exact Int.le_refl _
  · exact ((List.pairwise_cons.1 h).1 x hx).le
theorem low_perm {L L' R R' : List Nat} (h : Low L R) (h1 : L'.Perm L) (h2 : R'.Perm R) : Low L' R' := fun x hx y hy => h x (h1.mem_iff.1 hx) y (h2.mem_iff.1 hy)
/-- A place is put where it belongs among sorted ones. -/
theorem srt_put {t : Nat → Int} {L R : List Nat} {x : Nat} (h : Srt t (L ++ R)) (h1 : ∀ y ∈ L, Bf t y x) (h2 : ∀ y ∈ R, Bf t x y) : Srt t (L ++ x :: R) := by
  obtain ⟨a, b, c⟩ := srt_append.1 h
  refine srt_append.2 ⟨a, List.pairwise_cons.2 ⟨h2, b⟩, ?_⟩
  intro y hy z hz
  rcases List.mem_cons.1 hz with rfl | hz
  · exact h1 y hy
  · exact c y hy z hz
theorem bf_of_le {t : Nat → Int} {i j : Nat} (h : i < j) (ht : ¬ t j < t i) : Bf t i j := by unfold Bf; omega
theorem bf_of_lt {t : Nat → Int} {i j : Nat} (h : t i < t j) : Bf t i j := .inl h
/-- One step of the insertion sort: the place x has passed R, and what stands ahead of it is not later. -/
theorem ins_put {t : Nat → Int} {L R : List Nat} {x : Nat} (h : Srt t (L ++ R)) (hlow : Low L [x]) (hR : ∀ y ∈ R, t x < t y) (hL : L = [] ∨ ∃ L0 y, L = L0 ++ [y] ∧ ¬ t x < t y) : Srt t (L ++ x :: R) := by
  refine srt_put h ?_ (fun y hy => bf_of_lt (hR y hy))
  intro y hy
  rcases hL with rfl | ⟨L0, z, rfl, hz⟩
  · cases hy
  · have := srt_last (srt_append.1 h).1 y hy
    exact bf_of_le (hlow y hy x (by simp)) (by omega)

/-- The split of two sorted halves: what goes to the left stands before what goes to the right. -/
theorem split_bf {t : Nat → Int} {L1 L2 R1 R2 : List Nat} (hL : Srt t (L1 ++ L2)) (hR : Srt t (R1 ++ R2)) (hlow : Low (L1 ++ L2) (R1 ++ R2))
    (h1 : L1 = [] ∨ R2 = [] ∨ ∃ L0 x R0 y, L1 = L0 ++ [x] ∧ R2 = y :: R0 ∧ ¬ t y < t x) (h2 : R1 = [] ∨ L2 = [] ∨ ∃ R0 x L0 y, R1 = R0 ++ [x] ∧ L2 = y :: L0 ∧ t x < t y) :
    ∀ x ∈ L1 ++ R1, ∀ y ∈ L2 ++ R2, Bf t x y := by
  obtain ⟨a1, a2, a3⟩ := srt_append.1 hL
  obtain ⟨b1, b2, b3⟩ := srt_append.1 hR
  intro x hx y hy
  rcases List.mem_append.1 hx with hx | hx
  · rcases List.mem_append.1 hy with hy | hy
    · exact a3 x hx y hy
    · rcases h1 with rfl | rfl | ⟨L0, u, R0, v, rfl, rfl, huv⟩
      · cases hx
      · cases hy
      · have k1 := srt_last a1 x hx
        have k2 := srt_first b2 y hy
        exact bf_of_le (hlow x (List.mem_append_left _ hx) y (List.mem_append_right _ hy)) (by omega)
  · rcases List.mem_append.1 hy with hy | hy
    · rcases h2 with rfl | rfl | ⟨R0, u, L0, v, rfl, rfl, huv⟩
      · cases hx
      · cases hy
      · have k1 := srt_last b1 x hx
        have k2 := srt_first a2 y hy
        exact bf_of_lt (by omega)
    · exact b3 x hx y hy
/-- Two halves, merged each for itself behind such a split, are merged. -/
theorem merged {t : Nat → Int} {L1 L2 R1 R2 S1 S2 : List Nat} (h : ∀ x ∈ L1 ++ R1, ∀ y ∈ L2 ++ R2, Bf t x y) (h1 : S1.Perm (L1 ++ R1)) (h2 : S2.Perm (L2 ++ R2)) (s1 : Srt t S1) (s2 : Srt t S2) :
    Srt t (S1 ++ S2) ∧ (S1 ++ S2).Perm ((L1 ++ L2) ++ (R1 ++ R2)) := by
  refine ⟨srt_append.2 ⟨s1, s2, fun x hx y hy => h x (h1.mem_iff.1 hx) y (h2.mem_iff.1 hy)⟩, (h1.append h2).trans ?_⟩
  rw [List.append_assoc, List.append_assoc]
  refine List.Perm.append_left L1 ?_
  rw [← List.append_assoc, ← List.append_assoc]
  exact List.Perm.append_right R2 List.perm_append_comm
/-- The halves of a sorted list. -/
theorem srt_take_lt {t : Nat → Int} {R : List Nat} {x y : Nat} {h : Nat} (hR : Srt t R) (hy : R[h]? = some y) (hlt : t y < t x) : ∀ z ∈ R.take (h + 1), t z < t x := by
  intro z hz
  obtain ⟨i, hi⟩ := List.getElem?_of_mem hz
  rw [List.getElem?_take] at hi
  split at hi
  · rename_i hih
    rcases Nat.lt_or_ge i h with h1 | h1
    · obtain ⟨hi1, rfl⟩ := List.getElem?_eq_some_iff.1 hi
      obtain ⟨hy1, rfl⟩ := List.getElem?_eq_some_iff.1 hy
      have := (List.pairwise_iff_getElem.1 hR i h hi1 hy1 h1).le
      omega
    · obtain rfl : i = h := by omega
      rw [hi] at hy; injection hy with hy; subst hy; exact hlt
  · cases hi
theorem srt_drop_ge {t : Nat → Int} {R : List Nat} {x y : Nat} {h : Nat} (hR : Srt t R) (hy : R[h]? = some y) (hge : ¬ t y < t x) : ∀ z ∈ R.drop h, ¬ t z < t x := by
  intro z hz
  obtain ⟨i, hi⟩ := List.getElem?_of_mem hz
  rw [List.getElem?_drop] at hi
  rcases Nat.eq_zero_or_pos i with rfl | h1
  · rw [Nat.add_zero] at hi
    rw [hi] at hy; injection hy with hy; subst hy; exact hge
  · obtain ⟨hi1, rfl⟩ := List.getElem?_eq_some_iff.1 hi
    obtain ⟨hy1, rfl⟩ := List.getElem?_eq_some_iff.1 hy
    have := (List.pairwise_iff_getElem.1 hR h (h + i) hy1 hi1 (by omega)).le
    omega
theorem srt_take_le {t : Nat → Int} {R : List Nat} {x y : Nat} {h : Nat} (hR : Srt t R) (hy : R[h]? = some y) (hle : ¬ t x < t y) : ∀ z ∈ R.take (h + 1), ¬ t x < t z := by
  intro z hz
  obtain ⟨i, hi⟩ := List.getElem?_of_mem hz
  rw [List.getElem?_take] at hi
  split at hi
  · rename_i hih
    rcases Nat.lt_or_ge i h with h1 | h1
    · obtain ⟨hi1, rfl⟩ := List.getElem?_eq_some_iff.1 hi
      obtain ⟨hy1, rfl⟩ := List.getElem?_eq_some_iff.1 hy
      have := (List.pairwise_iff_getElem.1 hR i h hi1 hy1 h1).le
      omega
    · obtain rfl : i = h := by omega
      rw [hi] at hy; injection hy with hy; subst hy; exact hle
  · cases hi
theorem srt_drop_gt {t : Nat → Int} {R : List Nat} {x y : Nat} {h : Nat} (hR : Srt t R) (hy : R[h]? = some y) (hgt : t x < t y) : ∀ z ∈ R.drop h, t x < t z := by
  intro z hz
  obtain ⟨i, hi⟩ := List.getElem?_of_mem hz
  rw [List.getElem?_drop] at hi
  rcases Nat.eq_zero_or_pos i with rfl | h1
  · rw [Nat.add_zero] at hi
    rw [hi] at hy; injection hy with hy; subst hy; exact hgt
  · obtain ⟨hi1, rfl⟩ := List.getElem?_eq_some_iff.1 hi
    obtain ⟨hy1, rfl⟩ := List.getElem?_eq_some_iff.1 hy
    have := (List.pairwise_iff_getElem.1 hR h (h + i) hy1 hi1 (by omega)).le
    omega
end Go.Proofs.YtinknenfhohamaaGreatDoor

namespace Go.Proofs.YtinknenfhohamaaGreatDoor
open Go.RowKit
set_option maxRecDepth 100000

/-- A region that draws its order: one walk of the text's order, in whatever world of a class. -/
theorem region_quietC {P : Program} {C : World → Prop} {id : Nat} {Q : Exit → Act → World → Prop} {a : Act} {w : World} {l : List Oper} (hm : P.follows .mixedOrders = true) (hB : Region.lexB .any l.toArray = true) (hC : C w.drew)
    (h : wpQuiet P l.toArray C (fun a' => ∀ w', C w' → Q .normal a' w') l a) : (Code.region id l.toArray true).wp P Q a w :=
  wp_region_quiet (C := C) hm hB hC (by simpa using h)
theorem size_alloc (w : World) (o : Obj) : (w.alloc o).heap.size = w.heap.size + 1 := Array.size_push _
/-- Places that a block holds from its head on. -/
def IR (W : World) (g : Nat) (L : List Nat) : Prop := ∀ (j x : Nat), L[j]? = some x → W.cell? ⟨g, j, none⟩ = some (.int .i64 (x : Int)) ∧ W.frozen? ⟨g, j, none⟩ = false
theorem IR.drewN {W : World} {g : Nat} {L : List Nat} (h : IR W g L) (n : Nat) : IR (W.drewN n) g L := h
theorem grown_drewN (w : World) (n : Nat) (row : Option Nat) : w.grownBy (w.drewN n) row := ⟨rfl, rfl, rfl, Nat.le_refl _, fun _ _ _ => rfl⟩
theorem IR.set {W : World} {g : Nat} {L : List Nat} (h : IR W g L) (i x : Nat) (hi : i < L.length) : IR (W.setCell ⟨g, i, none⟩ (.int .i64 (x : Int))) g (L.set i x) := by
  intro j y hj
  have hjl : j < L.length := by have := (List.getElem?_eq_some_iff.1 hj).1; simpa using this
  obtain ⟨c1, -⟩ := h i _ (List.getElem?_eq_getElem hi)
  obtain ⟨d1, d2⟩ := h j _ (List.getElem?_eq_getElem hjl)
  refine ⟨?_, by rw [World.frozen?_setCell]; exact d2⟩
  by_cases hij : i = j
  · subst hij
    rw [List.getElem?_set_self hi] at hj
    injection hj with hj
    subst hj
    exact World.cell?_setCell_same (h := c1) ..
  · rw [List.getElem?_set_ne hij] at hj
    refine (World.cell?_setCell_other (h := (by intro he; injection he with _ he _; exact hij he)) ..).trans ?_
    rw [d1]
    rw [List.getElem?_eq_getElem hjl] at hj
    injection hj with hj
    rw [hj]
theorem grown_set (W : World) (g i : Nat) (v : Value) : W.grownBy (W.setCell ⟨g, i, none⟩ v) (some g) :=
  ⟨rfl, rfl, rfl, by rw [World.size_setCell]; exact Nat.le_refl _, fun k _ hne => heap_setCell_other W ⟨g, i, none⟩ k v (fun he => hne (by rw [he]))⟩
theorem grown_trans {a b c : World} {r : Option Nat} (h1 : a.grownBy b r) (h2 : b.grownBy c r) : a.grownBy c r :=
  ⟨h2.os.trans h1.os, h2.tape.trans h1.tape, h2.output.trans h1.output, Nat.le_trans h1.size h2.size, fun k hk hne => (h2.block k (Nat.lt_of_lt_of_le hk h1.size) hne).trans (h1.block k hk hne)⟩
/-- Two places of a list are exchanged. -/
theorem set_two (P Q R : List Nat) (x y : Nat) : ((P ++ x :: (Q ++ y :: R)).set P.length y).set (P.length + 1 + Q.length) x = P ++ y :: (Q ++ x :: R) := by
  rw [List.set_append_right _ _ (by omega), Nat.sub_self, List.set_cons_zero, List.set_append_right _ _ (by omega), show P.length + 1 + Q.length - P.length = Q.length + 1 by omega, List.set_cons_succ, List.set_append_right _ _ (by omega), Nat.sub_self, List.set_cons_zero]
theorem get_one (P R : List Nat) (x : Nat) : (P ++ x :: R)[P.length]? = some x := by
  rw [List.getElem?_append_right (by omega), Nat.sub_self]; rfl
theorem get_two (P Q R : List Nat) (x y : Nat) : (P ++ x :: (Q ++ y :: R))[P.length + 1 + Q.length]? = some y := by
  rw [List.getElem?_append_right (by omega), show P.length + 1 + Q.length - P.length = Q.length + 1 by omega, List.getElem?_cons_succ, List.getElem?_append_right (by omega), Nat.sub_self]; rfl
/-- The row behind an exchange. -/
theorem IR.swap {W : World} {g : Nat} {P Q R : List Nat} {x y : Nat} (h : IR W g (P ++ x :: (Q ++ y :: R))) :
    IR ((W.setCell ⟨g, P.length, none⟩ (.int .i64 (y : Int))).setCell ⟨g, P.length + 1 + Q.length, none⟩ (.int .i64 (x : Int))) g (P ++ y :: (Q ++ x :: R)) := by
  have h1 := h.set P.length y (by simp)
  have h2 := h1.set (P.length + 1 + Q.length) x (by simp; omega)
  rw [set_two] at h2
  exact h2
/-- The same, the later place first. -/
theorem IR.swap2 {W : World} {g : Nat} {P Q R : List Nat} {x y : Nat} (h : IR W g (P ++ x :: (Q ++ y :: R))) :
    IR ((W.setCell ⟨g, P.length + 1 + Q.length, none⟩ (.int .i64 (x : Int))).setCell ⟨g, P.length, none⟩ (.int .i64 (y : Int))) g (P ++ y :: (Q ++ x :: R)) := by
  have h1 := h.set (P.length + 1 + Q.length) x (by simp; omega)
  have h2 := h1.set P.length y (by simp)
  rw [List.set_comm _ _ (by omega), set_two] at h2
  exact h2
end Go.Proofs.YtinknenfhohamaaGreatDoor

namespace Go.Proofs.YtinknenfhohamaaGreatDoor
open Go.RowKit
set_option maxRecDepth 100000

set_option maxHeartbeats 1000000 in
theorem swapRange_any (g cap N : Nat) (A X M Y B : List Nat) (fv : Value) (a b n : Nat) (w : World) (hrow : IR w g (A ++ (X ++ (M ++ (Y ++ B))))) (hX : X.length = n) (hY : Y.length = n) (ha : A.length = a) (hb : a + n + M.length = b) (hN : b + n + B.length = N) (hN2 : N ≤ 1000) :
    Calls Tryz.prog 184 #[.slice (some ⟨g, 0, none⟩) N cap, .int .i64 a, .int .i64 b, .int .i64 n, fv] w fun e w' => e = .returned (.tuple #[]) ∧ IR w' g (A ++ (Y ++ (M ++ (X ++ B)))) ∧ w.grownBy w' (some g) := by
  have HX := Lib.hid hX
  have HY := Lib.hid hY
  have HA := Lib.hid ha
  have HB := Lib.hid hb
  have HR := Lib.hid hrow
  have HN := Lib.hid hN
  have hbn : b + n ≤ N := by omega
  have han : a + n ≤ b := by omega
  clear hX hY ha hb hrow hN
  go_enter Tryz.func184, Tryz.ntmps184
  go_wp2_with fail
  go_loopw [10] (fun i wx => ∃ k : Nat, k ≤ n ∧ i = .int .i64 k ∧ IR wx g (A ++ ((Y.take k ++ X.drop k) ++ (M ++ ((X.take k ++ Y.drop k) ++ B)))) ∧ w.grownBy wx (some g)) (fun i _ => n - (intOf i).toNat)
  case atStart => exact ⟨0, by omega, rfl, by simpa using HR.out, World.grownBy.refl _ _⟩
  case round =>
    obtain ⟨k, hk, rfl, hrow, hgr⟩ := hrel
    have hk0 : (0 : Int) ≤ (k : Int) := by omega
    by_cases hlt : k < n
    · obtain ⟨x, hx⟩ : ∃ x, X[k]? = some x := ⟨_, List.getElem?_eq_getElem (by rw [HX.out]; exact hlt)⟩
      obtain ⟨y, hy⟩ : ∃ y, Y[k]? = some y := ⟨_, List.getElem?_eq_getElem (by rw [HY.out]; exact hlt)⟩
      have hk2 : (Y.take k).length = k := by rw [List.length_take, HY.out]; omega
      have hk3 : (X.take k).length = k := by rw [List.length_take, HX.out]; omega
      have hxd : X.drop k = x :: X.drop (k + 1) := (List.drop_eq_getElem_cons (by rw [HX.out]; exact hlt)).trans (by rw [(List.getElem?_eq_some_iff.1 hx).2])
      have hyd : Y.drop k = y :: Y.drop (k + 1) := (List.drop_eq_getElem_cons (by rw [HY.out]; exact hlt)).trans (by rw [(List.getElem?_eq_some_iff.1 hy).2])
      have hform : A ++ (Y.take k ++ X.drop k ++ (M ++ (X.take k ++ Y.drop k ++ B))) = (A ++ Y.take k) ++ x :: ((X.drop (k + 1) ++ (M ++ X.take k)) ++ y :: (Y.drop (k + 1) ++ B)) := by
        rw [hxd, hyd]; simp [List.append_assoc]
      have hform2 : A ++ (Y.take (k + 1) ++ X.drop (k + 1) ++ (M ++ (X.take (k + 1) ++ Y.drop (k + 1) ++ B))) = (A ++ Y.take k) ++ y :: ((X.drop (k + 1) ++ (M ++ X.take k)) ++ x :: (Y.drop (k + 1) ++ B)) := by
        rw [List.take_add_one, List.take_add_one, hx, hy]; simp [List.append_assoc]
      have hl1 : (A ++ Y.take k).length = a + k := by rw [List.length_append, hk2, HA.out]
      have hl2 : (A ++ Y.take k).length + 1 + (X.drop (k + 1) ++ (M ++ X.take k)).length = b + k := by
        have := HB.out
        rw [hl1, List.length_append, List.length_append, List.length_drop, hk3, HX.out]; omega
      rw [hform] at hrow
      have hsw := hrow.swap
      obtain ⟨v1, f1⟩ := hrow (a + k) x (by rw [← hl1]; exact get_one _ _ _)
      obtain ⟨v2, f2⟩ := hrow (b + k) y (by rw [← hl2]; exact get_two _ _ _ _ _)
      rw [hl1] at hsw hl2
      rw [hl2, ← hform2] at hsw
      have HSW := Lib.hid hsw
      have HG := Lib.hid hgr
      have w1 : IntKind.i64.wrap ((a : Int) + (k : Int)) = (a : Int) + (k : Int) := IntWalk.i64_in _ (by omega)
      have w2 : IntKind.i64.wrap ((b : Int) + (k : Int)) = (b : Int) + (k : Int) := IntWalk.i64_in _ (by omega)
      have i1 : (a : Int) + (k : Int) < (N : Int) := by omega
      have i2 : (b : Int) + (k : Int) < (N : Int) := by omega
      have i3 : (0 : Int) ≤ (a : Int) + (k : Int) := by omega
      have i4 : (0 : Int) ≤ (b : Int) + (k : Int) := by omega
      have t1 : ((a : Int) + (k : Int)).toNat = a + k := by omega
      have t2 : ((b : Int) + (k : Int)).toNat = b + k := by omega
      have hne : ¬ (a + k = b + k) := by omega
      have hd : decide ((k : Int) < (n : Int)) = true := by rw [decide_eq_true_iff]; omega
      clear hrow hgr hform hform2 hsw hl1 hl2 hxd hyd hk2 hk3 hx hy
      go_upto_region 3 with fail
      go_region
      go_wp2_with fail
      go_roundw
      case rel => exact ⟨k + 1, by omega, by push_cast; rfl, HSW.out.drewN 1, grown_trans (grown_trans (grown_trans HG.out (grown_set _ _ _ _)) (grown_set _ _ _ _)) (grown_drewN _ 1 _)⟩
      case measure => simp [intOf]; omega
    · obtain rfl : k = n := by omega
      have hd : decide ((k : Int) < (k : Int)) = false := by simp
      have hfin : Hid (IR wr g (A ++ (Y ++ (M ++ (X ++ B))))) := Lib.hid (by
        rw [List.take_of_length_le (by rw [HY.out]; omega), List.drop_of_length_le (by rw [HX.out]; omega), List.take_of_length_le (by rw [HX.out]; omega), List.drop_of_length_le (by rw [HY.out]; omega), List.append_nil, List.append_nil] at hrow
        exact hrow)
      have HG := Lib.hid hgr
      clear hrow hgr
      go_wp2_with fail
      go_end0
      exact ⟨rfl, hfin.out, HG.out⟩
end Go.Proofs.YtinknenfhohamaaGreatDoor

namespace Go.Proofs.YtinknenfhohamaaGreatDoor
open Go.RowKit
set_option maxRecDepth 100000

set_option maxHeartbeats 1000000 in
theorem rotate_any (g cap N : Nat) (A X Y B : List Nat) (fv : Value) (a m b : Nat) (w : World) (hrow : IR w g (A ++ (X ++ (Y ++ B)))) (ha : A.length = a) (hm : a + X.length = m) (hb : m + Y.length = b) (hx0 : 0 < X.length) (hy0 : 0 < Y.length) (hN : b + B.length = N) (hN2 : N ≤ 1000) :
    Calls Tryz.prog 171 #[.slice (some ⟨g, 0, none⟩) N cap, .int .i64 a, .int .i64 m, .int .i64 b, fv] w fun e w' => e = .returned (.tuple #[]) ∧ IR w' g (A ++ (Y ++ (X ++ B))) ∧ w.grownBy w' (some g) := by
  have HA := Lib.hid ha
  have HM := Lib.hid hm
  have HB := Lib.hid hb
  have HR := Lib.hid hrow
  have HN := Lib.hid hN
  have hbN : b ≤ N := by omega
  have hma : (m : Int) - (a : Int) = (X.length : Int) := by omega
  have hbm : (b : Int) - (m : Int) = (Y.length : Int) := by omega
  have ham : a ≤ m := by omega
  have hmb : m ≤ b := by omega
  obtain ⟨lx, hlx⟩ : ∃ lx, X.length = lx := ⟨_, rfl⟩
  obtain ⟨ly, hly⟩ : ∃ ly, Y.length = ly := ⟨_, rfl⟩
  rw [hlx] at hma hx0
  rw [hly] at hbm hy0
  have HLX := Lib.hid hlx
  have HLY := Lib.hid hly
  clear ha hm hb hrow hN hlx hly
  go_enter Tryz.func171, Tryz.ntmps171
  go_wp2_with fail
  go_loopw [10, 11] (fun i j wx => ∃ P X' Y' Q : List Nat, i = .int .i64 X'.length ∧ j = .int .i64 Y'.length ∧ 0 < X'.length ∧ 0 < Y'.length ∧ IR wx g (A ++ (P ++ (X' ++ (Y' ++ (Q ++ B))))) ∧ a + P.length + X'.length = m ∧ m + Y'.length + Q.length = b ∧ P ++ (Y' ++ (X' ++ Q)) = Y ++ X ∧ w.grownBy wx (some g)) (fun i j _ => (intOf i).toNat + (intOf j).toNat)
  case atStart =>
    refine ⟨[], X, Y, [], by rw [HLX.out], by rw [HLY.out], by rw [HLX.out]; exact hx0, by rw [HLY.out]; exact hy0, by simpa using HR.out, ?_, ?_, by simp, World.grownBy.refl _ _⟩
    · simpa using HM.out
    · simpa using HB.out
  case round =>
    obtain ⟨P, X', Y', Q, rfl, rfl, hx, hy, hrow, hm', hb', heq, hgr⟩ := hrel
    obtain ⟨i, hi⟩ : ∃ i, X'.length = i := ⟨_, rfl⟩
    obtain ⟨j, hj⟩ : ∃ j, Y'.length = j := ⟨_, rfl⟩
    rw [hi] at hx hm'
    rw [hj] at hy hb'
    rw [hi, hj]
    have HI := Lib.hid hi
    have HJ := Lib.hid hj
    have HROW := Lib.hid hrow
    have HEQ := Lib.hid heq
    have HG := Lib.hid hgr
    have HNB : b + B.length = N := HN.out
    obtain ⟨lB, hlB⟩ : ∃ lB, B.length = lB := ⟨_, rfl⟩
    obtain ⟨lP, hlP⟩ : ∃ lP, P.length = lP := ⟨_, rfl⟩
    obtain ⟨lQ, hlQ⟩ : ∃ lQ, Q.length = lQ := ⟨_, rfl⟩
    have HLB := Lib.hid hlB
    have HLP := Lib.hid hlP
    have HLQ := Lib.hid hlQ
    rw [hlB] at HNB
    rw [hlP] at hm'
    rw [hlQ] at hb'
    have him : i ≤ m := by omega
    have hmj : m + j ≤ 1000 := by omega
    obtain ⟨p, hp⟩ : ∃ p, p = a + lP := ⟨_, rfl⟩
    have hs1 : (m : Int) - (i : Int) = (p : Int) := by omega
    have HPP := Lib.hid hp
    have HM2 := Lib.hid hm'
    have HB2 := Lib.hid hb'
    have HNB2 := Lib.hid HNB
    clear hi hj hrow heq hgr hlB hlP hlQ
    rcases Nat.lt_trichotomy i j with hlt | rfl | hgt
    · -- the right block is the longer one
      have hne : ((i : Int) != (j : Int)) = true := by rw [bne_iff_ne]; omega
      have hne2 : ((i : Int) == (j : Int)) = false := beq_eq_false_iff_ne.2 (by omega)
      have hgt : decide ((j : Int) < (i : Int)) = false := by rw [decide_eq_false_iff_not]; omega
      have hgt2 : decide (j < i) = false := by rw [decide_eq_false_iff_not]; omega
      obtain ⟨d, hd⟩ : ∃ d, j = d + i := ⟨j - i, by omega⟩
      obtain ⟨q, hq⟩ : ∃ q, q = m + d := ⟨_, rfl⟩
      have hs2 : (m : Int) + (j : Int) - (i : Int) = (q : Int) := by omega
      have hs3 : (j : Int) - (i : Int) = (d : Int) := by omega
      obtain ⟨Y1, hY1⟩ : ∃ Y1, Y'.take d = Y1 := ⟨_, rfl⟩
      obtain ⟨Y2, hY2⟩ : ∃ Y2, Y'.drop d = Y2 := ⟨_, rfl⟩
      have hYY : Y' = Y1 ++ Y2 := by rw [← hY1, ← hY2, List.take_append_drop]
      have hl1 : Y1.length = d := by rw [← hY1, List.length_take, HJ.out]; omega
      have hl2 : Y2.length = i := by rw [← hY2, List.length_drop, HJ.out]; omega
      have HSW := Lib.hid (swapRange_any g cap N (A ++ P) X' Y1 Y2 (Q ++ B) fv p q i wr (by have := HROW.out; rw [hYY] at this; simpa [List.append_assoc] using this) HI.out hl2 (by rw [List.length_append, HA.out, HLP.out, hp]) (by rw [hl1]; omega) (by rw [List.length_append, HLQ.out, HLB.out]; omega) hN2)
      have HYY := Lib.hid hYY
      have HL1 := Lib.hid hl1
      have HL2 := Lib.hid hl2
      have hd1 : 0 < d := by omega
      have HD := Lib.hid hd
      clear hY1 hY2 hYY hl1 hl2 hm' hb' HNB hp hq hd
      go_wp2_with fail
      refine HSW.out.mono ?_
      rintro e w5 ⟨rfl, hrow5, hg5⟩
      have HR5 := Lib.hid hrow5
      have HG5 := Lib.hid hg5
      clear hrow5 hg5
      go_wp2_with fail
      go_roundw
      case rel =>
        refine ⟨P, Y2, Y1, X' ++ Q, by rw [HL2.out], by rw [HL1.out], by rw [HL2.out]; exact hx, by rw [HL1.out]; omega, by simpa [List.append_assoc] using HR5.out, by rw [HL2.out, HLP.out]; exact HM2.out, by have := HB2.out; have := HD.out; rw [HL1.out, List.length_append, HI.out, HLQ.out]; omega, by have := HEQ.out; rw [HYY.out] at this; simpa [List.append_assoc] using this, grown_trans HG.out HG5.out⟩
      case measure => have := HD.out; simp [intOf]; omega
    · have hne : ((i : Int) != (i : Int)) = false := by simp
      have hne2 : ((i : Int) == (i : Int)) = true := by simp
      have HSW := Lib.hid (swapRange_any g cap N (A ++ P) X' [] Y' (Q ++ B) fv p m i wr (by have := HROW.out; simpa [List.append_assoc] using this) HI.out HJ.out (by rw [List.length_append, HA.out, HLP.out, hp]) (by show p + i + 0 = m; omega) (by rw [List.length_append, HLQ.out, HLB.out]; omega) hN2)
      clear hm' hb' HNB hp
      go_wp2_with fail
      refine HSW.out.mono ?_
      rintro e w5 ⟨rfl, hrow5, hg5⟩
      have HR5 : Hid (IR w5 g (A ++ (Y ++ (X ++ B)))) := Lib.hid (by
        have h1 : A ++ P ++ (Y' ++ ([] ++ (X' ++ (Q ++ B)))) = A ++ (Y ++ (X ++ B)) := by
          have := congrArg (fun l => A ++ (l ++ B)) HEQ.out
          simpa [List.append_assoc] using this
        rw [h1] at hrow5; exact hrow5)
      have HG5 := Lib.hid (grown_trans HG.out hg5)
      clear hrow5 hg5
      go_wp2_with fail
      go_end0
      exact ⟨rfl, HR5.out, HG5.out⟩
    · have hne : ((i : Int) != (j : Int)) = true := by rw [bne_iff_ne]; omega
      have hne2 : ((i : Int) == (j : Int)) = false := beq_eq_false_iff_ne.2 (by omega)
      have hgt1 : decide ((j : Int) < (i : Int)) = true := by rw [decide_eq_true_iff]; omega
      have hgt2 : decide (j < i) = true := by rw [decide_eq_true_iff]; omega
      obtain ⟨d, hd⟩ : ∃ d, i = d + j := ⟨i - j, by omega⟩
      have hs3 : (i : Int) - (j : Int) = (d : Int) := by omega
      obtain ⟨X1, hX1⟩ : ∃ X1, X'.take j = X1 := ⟨_, rfl⟩
      obtain ⟨X2, hX2⟩ : ∃ X2, X'.drop j = X2 := ⟨_, rfl⟩
      have hXX : X' = X1 ++ X2 := by rw [← hX1, ← hX2, List.take_append_drop]
      have hl1 : X1.length = j := by rw [← hX1, List.length_take, HI.out]; omega
      have hl2 : X2.length = d := by rw [← hX2, List.length_drop, HI.out]; omega
      have HSW := Lib.hid (swapRange_any g cap N (A ++ P) X1 X2 Y' (Q ++ B) fv p m j wr (by have := HROW.out; rw [hXX] at this; simpa [List.append_assoc] using this) hl1 HJ.out (by rw [List.length_append, HA.out, HLP.out, hp]) (by rw [hl2]; omega) (by rw [List.length_append, HLQ.out, HLB.out]; omega) hN2)
      have HXX := Lib.hid hXX
      have HL1 := Lib.hid hl1
      have HL2 := Lib.hid hl2
      have hd1 : 0 < d := by omega
      have HD := Lib.hid hd
      clear hX1 hX2 hXX hl1 hl2 hm' hb' HNB hp hd
      go_wp2_with fail
      refine HSW.out.mono ?_
      rintro e w5 ⟨rfl, hrow5, hg5⟩
      have HR5 := Lib.hid hrow5
      have HG5 := Lib.hid hg5
      clear hrow5 hg5
      go_wp2_with fail
      go_roundw
      case rel =>
        refine ⟨P ++ Y', X2, X1, Q, by rw [HL2.out], by rw [HL1.out], by rw [HL2.out]; omega, by rw [HL1.out]; exact hy, by simpa [List.append_assoc] using HR5.out, by have := HM2.out; have := HD.out; rw [HL2.out, List.length_append, HLP.out, HJ.out]; omega, by have := HB2.out; rw [HL1.out, HLQ.out]; omega, by have := HEQ.out; rw [HXX.out] at this; simpa [List.append_assoc] using this, grown_trans HG.out HG5.out⟩
      case measure => have := HD.out; simp [intOf]; omega
end Go.Proofs.YtinknenfhohamaaGreatDoor
