/- newTrust of the program. isGood of the program. -/
import Derived.Test.YtkihcigojhcmgaaDoorG12
import Derived.Test.YtkihcigojhcmgaaDoorG01
namespace Go.Proofs.YtkihcigojhcmgaaDoor
open Go.RowKit
set_option maxRecDepth 100000

theorem Tryd.infoInt : (Tryd.prog.info? 3).map (fun i => (i.zero, i.size, i.bytes)) = some (some (.int .i64 0), 1, 8) := by kernel_rfl
/-- Integers as cells. -/
def ics (l : List Int) : List Value := l.map fun (x : Int) => Value.int .i64 x
theorem ics_length (l : List Int) : (ics l).length = l.length := by simp [ics]
/-- A row of integers that the call owns. -/
def IRow (W : World) (base : Nat) (v : Value) (l : List Int) : Prop := W.ownsRow base 3 1 v l.length (ics l)
theorem IRow.nil (W : World) (base : Nat) : IRow W base (.slice none 0 0) [] := World.ownsRow_nil _ _ _ _
theorem IRow.heap_of {W W' : World} {base : Nat} {v : Value} {l : List Int} (h : IRow W base v l) (hb : ∀ g, v.ownBlock = some g → W'.heap[g]? = W.heap[g]?) : IRow W' base v l := by
  refine ⟨h.1, ?_⟩
  rcases h.2 with h2 | ⟨g, cap, cur, h1, h2, h3, h4⟩
  · exact .inl h2
  · refine .inr ⟨g, cap, cur, h1, h2, ?_, h4⟩
    rw [hb g (by rw [h1]; rfl)]; exact h3
theorem IRow.lt {W : World} {base : Nat} {v : Value} {l : List Int} (h : IRow W base v l) : ∀ g, v.ownBlock = some g → base ≤ g ∧ g < W.heap.size := World.ownsRow.lt h
theorem IRow.below {W W' : World} {base : Nat} {v : Value} {l : List Int} (h : IRow W base v l) (hb : Below W.heap.size W W') : IRow W' base v l := h.heap_of fun g hg => hb.block g (h.lt g hg).2
theorem IRow.isSlice {W : World} {base : Nat} {v : Value} {l : List Int} (h : IRow W base v l) : ∃ a c, v = .slice a l.length c ∧ IntS W a l := by
  rcases h.2 with ⟨h2, h3⟩ | ⟨g, cap, cur, h1, h2, h3, h4, h5, h6, h7⟩
  · have : l = [] := List.eq_nil_of_length_eq_zero h3
    subst this
    exact ⟨none, 0, h2, IntS.nil _ _⟩
  · refine ⟨_, cap, h1, ?_⟩
    subst h1
    have hlt := (h.lt g rfl).2
    intro i z hi
    have hil : i < l.length := (List.getElem?_eq_some_iff.1 hi).1
    refine ⟨g, 0, rfl, hlt, ?_⟩
    rw [Nat.zero_add, World.ownsRow.cellAt h i (by omega), ics, List.getElem?_map, hi]; rfl
/-- One integer appended, at a step of a region that draws its order. -/
theorem step_append_int {ops : Array Oper} {o : Oper} {a : Act} {K : Act → World → Prop} {Q : Exit → Act → World → Prop} {E : Prop} {w0 : World} (hgd : o.guard = none) (s x : Operand)
    (ho : o.op = .call { callee := .builtin .append, args := #[s, x], argTypes := #[34, 34] })
    {base : Nat} {v : Value} {l : List Int} (hs : a.eval s = v) (hown : IRow w0 base v l) (hbase : base ≤ w0.heap.size) (hlen : l.length ≤ 1000000)
    {b : Nat} (hx : a.eval x = .slice (some ⟨b, 0, none⟩) 1 1) {z : Int} (hc : w0.cell? ⟨b, 0, none⟩ = some (.int .i64 z))
    (h : ∀ g cap w', IRow w' base (.slice (some ⟨g, 0, none⟩) (l.length + 1) cap) (l ++ [z]) → w0.grownBy w' v.ownBlock → (v.ownBlock = some g ∨ g = w0.heap.size) →
      K (a.put o.dst (.slice (some ⟨g, 0, none⟩) (l.length + 1) cap)) w') :
    if Region.wanted o (yielded ops a.tmps) = true then Oper.wp Tryd.prog o a w0 K Q else E := by
  obtain ⟨i0, hi, hz0, hz1, hz2⟩ := info_parts Tryd.infoInt
  refine step_append_lies _ hgd s x 34 ho base 3 i0 _ 1 8 Tryd.underlying34 hi hz0 hz1 hz2 rfl (by decide) v l.length (ics l) hs hown ⟨b, 0, none⟩ 1 1 [.int .i64 z] hx rfl ?_ (by simp [Value.oneCell']) (by decide) (by unfold maxLen; omega) (by omega) hbase _ rfl ?_
  · intro j u hj
    match j, hj with
    | 0, hj => cases hj; exact hc
  intro g cap w1 hown' hgrow hat hlt
  refine h g cap w1 ?_ hgrow hat
  show w1.ownsRow base _ 1 _ (l ++ [z]).length (ics (l ++ [z]))
  rw [show ics (l ++ [z]) = ics l ++ [.int .i64 z] by simp [ics], show (l ++ [z]).length = l.length + 1 by simp]
  exact hown'

/-- The trust that newTrust makes: seventeen slices of integers, each in memory of its own. -/
def TrO (W : World) (g : Nat) (F : Nat → List Int) : Prop := g < W.heap.size ∧ ∃ vs : Nat → Value, (∀ k, k < 17 → W.cell? ⟨g, k, none⟩ = some (vs k) ∧ W.frozen? ⟨g, k, none⟩ = false ∧ IRow W (g + 1) (vs k) (F k)) ∧
  ∀ k k', k < 17 → k' < 17 → k ≠ k' → ∀ x, (vs k).ownBlock = some x → (vs k').ownBlock ≠ some x
theorem TrO.below {W W' : World} {g : Nat} {F : Nat → List Int} (h : TrO W g F) (hb : Below W.heap.size W W') : TrO W' g F := by
  obtain ⟨h0, vs, h1, h2⟩ := h
  refine ⟨Nat.lt_of_lt_of_le h0 hb.size, vs, fun k hk => ?_, h2⟩
  obtain ⟨h3, h4, h5⟩ := h1 k hk
  exact ⟨(hb.cell (p := ⟨g, k, none⟩) h0).trans h3, (hb.frozen (p := ⟨g, k, none⟩) h0).trans h4, h5.below hb⟩
theorem TrO.congr {W : World} {g : Nat} {F G : Nat → List Int} (h : TrO W g F) (hf : ∀ k, F k = G k) : TrO W g G := by rwa [show G = F from funext fun k => (hf k).symm]
theorem TrO.drew {W : World} {g : Nat} {F : Nat → List Int} (h : TrO W g F) : TrO W.drew g F := h
/-- A further integer at one place. -/
theorem TrO.push {W W1 : World} {g : Nat} {F : Nat → List Int} (h : TrO W g F) (q : Nat) (hq : q < 17) (v v' : Value) (hv : W.cell? ⟨g, q, none⟩ = some v) (z : Int)
    (hrow : IRow W1 (g + 1) v' (F q ++ [z])) (hgrow : W.grownBy W1 v.ownBlock) (hat : v.ownBlock = v'.ownBlock ∨ v'.ownBlock = some W.heap.size) : TrO (W1.setCell ⟨g, q, none⟩ v') g (fun k => if k = q then F k ++ [z] else F k) := by
  obtain ⟨h0, vs, h1, h2⟩ := h
  have hvq : vs q = v := Option.some.inj ((h1 q hq).1.symm.trans hv)
  have hg1 : W1.heap[g]? = W.heap[g]? := hgrow.block g h0 (by
    intro he
    have := ((h1 q hq).2.2.lt g (by rw [hvq]; exact he.symm)).1
    omega)
  have hsz := hgrow.size
  have hrowS : ∀ {u : Value} {l : List Int}, IRow W1 (g + 1) u l → IRow (W1.setCell ⟨g, q, none⟩ v') (g + 1) u l := fun hu => hu.heap_of fun x hx => by
    refine heap_setCell_other W1 _ x v' ?_
    have := (hu.lt x hx).1
    show x ≠ g
    omega
  refine ⟨by rw [World.size_setCell]; omega, fun k => if k = q then v' else vs k, fun k hk => ?_, fun k k' hk hk' hne x hx => ?_⟩
  · by_cases hkq : k = q
    · subst hkq
      simp only [if_true]
      have hc := (h1 k hk).1
      rw [← World.cell?_of_block (w := W) (a := ⟨g, k, none⟩) hg1] at hc
      refine ⟨World.cell?_setCell_same _ _ _ hc, ?_, hrowS hrow⟩
      rw [World.frozen?_setCell, World.frozen?_of_block (w := W) (a := ⟨g, k, none⟩) hg1]
      exact (h1 k hk).2.1
    · simp only [if_neg hkq]
      obtain ⟨h3, h4, h5⟩ := h1 k hk
      refine ⟨?_, ?_, hrowS (h5.heap_of fun x hx => hgrow.block x (h5.lt x hx).2 (fun he => h2 k q hk hq hkq x hx (by rw [hvq]; exact he.symm)))⟩
      · rw [World.cell?_setCell_other _ _ _ _ (by intro e; injection e with e1 e2 e3; omega), World.cell?_of_block (w := W) (a := ⟨g, k, none⟩) hg1]; exact h3
      · rw [World.frozen?_setCell, World.frozen?_of_block (w := W) (a := ⟨g, k, none⟩) hg1]; exact h4
  · have low : ∀ j, j < 17 → ∀ y, (vs j).ownBlock = some y → y < W.heap.size := fun j hj y hy => ((h1 j hj).2.2.lt y hy).2
    by_cases hkq : k = q
    · simp only [if_pos hkq] at hx
      have hk'q : ¬ k' = q := fun e => hne (hkq.trans e.symm)
      simp only [if_neg hk'q]
      intro hx'
      rcases hat with hat | hat
      · exact h2 k' q hk' hq hk'q x hx' (by rw [hvq, hat]; exact hx)
      · rw [hat] at hx
        injection hx with hx
        have := low k' hk' x hx'
        omega
    · simp only [if_neg hkq] at hx
      by_cases hk'q : k' = q
      · simp only [if_pos hk'q]
        intro hx'
        rcases hat with hat | hat
        · exact h2 k q hk hq hkq x hx (by rw [hvq, hat]; exact hx')
        · rw [hat] at hx'
          injection hx' with hx'
          have := low k hk x hx
          omega
      · simp only [if_neg hk'q]
        exact h2 k k' hk hk' hne x hx

set_option maxHeartbeats 4000000 in
theorem newTrust_any (a : Option Addr) (c : Nat) (bs : List Brk) (known : Int) (w : World) (hS : BrS w a bs) (hL : bs.length ≤ 1000000) :
    Calls Tryd.prog 31 #[.slice a bs.length c, .int .i64 known] w fun e w' => e = .returned (.pointer (some ⟨w.heap.size, 0, none⟩)) ∧ TrO w' w.heap.size (froms bs known) ∧ Below w.heap.size w w' := by
  obtain ⟨m, hm⟩ : ∃ m, bs.length = m := ⟨_, rfl⟩
  rw [hm] at hL ⊢
  have HM := Lib.hid hm
  have HS := Lib.hid hS
  clear hm hS
  go_enter Tryd.func31, Tryd.ntmps31
  go_wp2_with fail
  go_loopw [12] (fun i wx => ∃ j : Nat, j ≤ m ∧ i = .int .i64 j ∧ TrO wx w.heap.size (froms (bs.take j) known) ∧ Below w.heap.size w wx) (fun i _ => m - (intOf i).toNat)
  case atStart =>
    refine ⟨0, by omega, rfl, ⟨by rw [size_alloc]; omega, fun _ => .slice none 0 0, fun k hk => ⟨?_, ?_, ?_⟩, ?_⟩, (Below.refl _ _).alloc (Nat.le_refl _) _⟩
    · rw [Lib.cell_of_heap (heap_last _ _)]
      rcases k with _ | _ | _ | _ | _ | _ | _ | _ | _ | _ | _ | _ | _ | _ | _ | _ | _ | k <;> first | rfl | omega
    · simp only [World.frozen?, heap_last]; simp
    · rw [List.take_zero, froms_nil]; exact IRow.nil _ _
    · intro k k' _ _ _ x hx; cases hx
  case round =>
    obtain ⟨j, hj, rfl, htr, hb⟩ := hrel
    have hsz := hb.size
    have HTR := Lib.hid htr
    have HB := Lib.hid hb
    clear htr hb
    by_cases hlt : j < m
    · obtain ⟨x, hxj⟩ : ∃ x, bs[j]? = some x := ⟨_, List.getElem?_eq_getElem (by rw [HM.out]; exact hlt)⟩
      obtain ⟨b, o, rfl, hbl, x0, x1, x2, x3⟩ := (HS.out.below HB.out) j x hxj
      have HTK := Lib.hid (take_more hxj)
      have n0 : (0 : Int) ≤ (j : Int) := by omega
      have n1 : (j : Int) < (m : Int) := by omega
      have hd : decide ((j : Int) < (m : Int)) = true := by rw [decide_eq_true_iff]; omega
      have hd2 : decide (j < m) = true := by rw [decide_eq_true_iff]; omega
      clear hxj
      by_cases k1 : known < x.known
      · have KN := Lib.hid (froms_late (bs := bs.take j) k1)
        go_wp2_with fail
        exact ⟨⟨j + 1, by omega, by push_cast; rfl, by rw [HTK.out]; exact (HTR.out.below ((Below.refl _ _).alloc (Nat.le_refl _) _)).congr fun k => (KN.out k).symm, HB.out.alloc hsz _⟩, by simp [intOf]; omega⟩
      have k1' : x.known ≤ known := by omega
      by_cases k2 : x.wit = 0
      · rw [k2] at x1
        by_cases k3 : 0 ≤ x.hash ∧ x.hash ≤ 7
        · obtain ⟨q, hq⟩ : ∃ q : Nat, x.hash = q := ⟨x.hash.toNat, by omega⟩
          have hq7 : q ≤ 7 := by omega
          have KN := Lib.hid (froms_at (bs := bs.take j) k1' (place_hash k2 q hq7 hq))
          have hwn : (decide ((0 : Int) ≤ (q : Int)) && decide ((q : Int) ≤ 7)) = true := within_eq.2 ⟨by omega, by omega⟩
          rw [hq] at x0
          clear k2 k3 hq
          have i0 : (0 : Int) ≤ (q : Int) := by omega
          have i1 : (q : Int) < 8 := by omega
          go_wp2_with fail
          refine (within_any q 0 7 _).mono ?_
          rintro e w1 ⟨rfl, rfl⟩
          rw [hwn]
          go_upto_region 7 with fail
          obtain ⟨w2, hw2⟩ : ∃ w2, wr.alloc (.cells #[.int .i64 (q : Int), .int .i64 0, .int .i64 x.frm, .int .i64 x.known] 48) = w2 := ⟨_, rfl⟩
          have hblk : w2.heap[wr.heap.size]? = some (.cells #[.int .i64 (q : Int), .int .i64 0, .int .i64 x.frm, .int .i64 x.known] 48) := by rw [← hw2]; exact heap_last _ _
          have HT2 := Lib.hid (show TrO w2 w.heap.size (froms (bs.take j) known) by rw [← hw2]; exact HTR.out.below ((Below.refl _ _).alloc (Nat.le_refl _) _))
          have HB2 := Lib.hid (show Below w.heap.size w w2 by rw [← hw2]; exact HB.out.alloc hsz _)
          have hs2 : w2.heap.size = wr.heap.size + 1 := by rw [← hw2, size_alloc]
          have HSZ2 := Lib.hid hs2
          have hs2' : wr.heap.size < w2.heap.size := by omega
          rw [hw2]
          have c0 : w2.cell? ⟨wr.heap.size, 0, none⟩ = some (.int .i64 (q : Int)) := by rw [Lib.cell_of_heap hblk]; rfl
          have c2 : w2.cell? ⟨wr.heap.size, 2, none⟩ = some (.int .i64 x.frm) := by rw [Lib.cell_of_heap hblk]; rfl
          obtain ⟨hg2, vs, h1, -⟩ := HT2.out
          obtain ⟨tv, tf, tr⟩ := h1 q (by omega)
          obtain ⟨-, vs', h1', -⟩ := HTR.out
          obtain ⟨tv', -, tr'⟩ := h1' q (by omega)
          have hvv : vs' q = vs q := by
            have h2 : w2.cell? ⟨w.heap.size, q, none⟩ = some (vs' q) := by rw [← hw2]; exact (((Below.refl wr.heap.size wr).alloc (Nat.le_refl _) _).cell (p := ⟨w.heap.size, q, none⟩) HTR.out.1).trans tv'
            rw [tv] at h2; exact (Option.some.inj h2).symm
          have hvl : ∀ y, (vs q).ownBlock = some y → y < wr.heap.size := fun y hy => (tr'.lt y (by rw [hvv]; exact hy)).2
          generalize vs q = v at *
          have hne1 : ¬ (w.heap.size = wr.heap.size) := by have := HTR.out.1; omega
          have hne2 : ¬ (wr.heap.size = w.heap.size) := by omega
          have HVL := Lib.hid hvl
          have HTRR := Lib.hid tr
          have zz : ∀ o', (w2.alloc o').cell? ⟨w.heap.size, q, none⟩ = some v := fun o' => (((Below.refl w2.heap.size w2).alloc (Nat.le_refl _) o').cell (p := ⟨w.heap.size, q, none⟩) hg2).trans tv
          have yy : ∀ o', (w2.alloc o').frozen? ⟨w.heap.size, q, none⟩ = false := fun o' => (((Below.refl w2.heap.size w2).alloc (Nat.le_refl _) o').frozen (p := ⟨w.heap.size, q, none⟩) hg2).trans tf
          have hbn : ∀ k : Nat, (froms (bs.take j) known k).length ≤ 1000000 := fun k => Nat.le_trans (froms_len _ _ _) (by rw [List.length_take]; omega)
          have HBN := Lib.hid hbn
          clear hvl hvv tr tr' tv' h1 h1' hw2 hblk x0 x1 x2 x3 hs2 hbn
          go_region_law
            ((refine step_append_int (by rfl) _ _ (by rfl) (by rfl) (base := w.heap.size + 1) (b := w2.heap.size) (z := x.frm) (v := v) (l := froms (bs.take j) known q) (HTRR.out.below ((Below.refl _ _).drew.alloc (Nat.le_refl _) _)) (by simp; omega) (HBN.out q) (by rfl) (World.cell?_alloc_mark w2 #[.int .i64 x.frm] 3 (0, 0) 0) ?_; intro g' c' w3 hrow3 hg3 hat3; have k5 := (hg3.cell_far ⟨w.heap.size, q, none⟩ (by simp; omega) (fun e => absurd (HTRR.out.lt _ e.symm).1 (Nat.not_succ_le_self _))).trans (zz _); have k6 := (hg3.frozen_far ⟨w.heap.size, q, none⟩ (by simp; omega) (fun e => absurd (HTRR.out.lt _ e.symm).1 (Nat.not_succ_le_self _))).trans (yy _); have kk := fun o => hg3.cell_far ⟨wr.heap.size, o, none⟩ (by simp; omega) (fun e => absurd (HVL.out _ e.symm) (Nat.lt_irrefl _))))
          all_goals
            go_wp2_with fail
            refine ⟨⟨j + 1, by omega, by push_cast; rfl, ?_, ?_⟩, by simp [intOf]; omega⟩
            · rw [HTK.out]
              refine (TrO.push (TrO.drew (HT2.out.below ((Below.refl _ _).alloc (Nat.le_refl _) (.cells #[.int .i64 x.frm] 3)))) q (by omega) v _ (zz _) x.frm hrow3 hg3 ?_).congr fun k => (KN.out k).symm
              rcases hat3 with h | h
              · exact .inl h
              · exact .inr (congrArg some h)
            · exact (((HB2.out.alloc HB2.out.size _).drew).grown hg3 (by simp; omega) (fun k hk => by have := (HTRR.out.lt k hk).1; omega)).setCell (p := ⟨w.heap.size, q, none⟩) (Nat.le_refl _) _
        · have KN := Lib.hid (froms_none (bs := bs.take j) (known := known) (place_none (b := x) (fun h => k3 h.2) (by omega)))
          have hwn : (decide ((0 : Int) ≤ x.hash) && decide (x.hash ≤ 7)) = false := within_ne k3
          clear k2 k3
          go_wp2_with fail
          refine (within_any x.hash 0 7 _).mono ?_
          rintro e w1 ⟨rfl, rfl⟩
          rw [hwn]
          go_wp2_with fail
          refine (within_any 0 1 8 _).mono ?_
          rintro e w1 ⟨rfl, rfl⟩
          rw [show (decide ((1 : Int) ≤ 0) && decide ((0 : Int) ≤ 8)) = false from rfl]
          go_wp2_with fail
          exact ⟨⟨j + 1, by omega, by push_cast; rfl, by rw [HTK.out]; exact (HTR.out.below ((Below.refl _ _).alloc (Nat.le_refl _) _)).congr fun k => (KN.out k).symm, HB.out.alloc hsz _⟩, by simp [intOf]; omega⟩
      · have k2b : (x.wit == 0) = false := beq_eq_false_iff_ne.2 k2
        by_cases k3 : 1 ≤ x.wit ∧ x.wit ≤ 8
        · obtain ⟨q, hq⟩ : ∃ q : Nat, x.wit = q := ⟨x.wit.toNat, by omega⟩
          have hq1 : 1 ≤ q := by omega
          have hq8 : q ≤ 8 := by omega
          have KN := Lib.hid (froms_at (bs := bs.take j) k1' (place_wit q hq1 hq8 hq))
          have hwn : (decide ((1 : Int) ≤ (q : Int)) && decide ((q : Int) ≤ 8)) = true := within_eq.2 ⟨by omega, by omega⟩
          rw [hq] at x1 k2b
          clear k2 k3 hq
          have i0 : (0 : Int) ≤ (q : Int) := by omega
          have i1 : (q : Int) < 9 := by omega
          go_wp2_with fail
          refine (within_any q 1 8 _).mono ?_
          rintro e w1 ⟨rfl, rfl⟩
          rw [hwn]
          go_upto_region 9 with fail
          obtain ⟨w2, hw2⟩ : ∃ w2, wr.alloc (.cells #[.int .i64 x.hash, .int .i64 (q : Int), .int .i64 x.frm, .int .i64 x.known] 48) = w2 := ⟨_, rfl⟩
          have hblk : w2.heap[wr.heap.size]? = some (.cells #[.int .i64 x.hash, .int .i64 (q : Int), .int .i64 x.frm, .int .i64 x.known] 48) := by rw [← hw2]; exact heap_last _ _
          have HT2 := Lib.hid (show TrO w2 w.heap.size (froms (bs.take j) known) by rw [← hw2]; exact HTR.out.below ((Below.refl _ _).alloc (Nat.le_refl _) _))
          have HB2 := Lib.hid (show Below w.heap.size w w2 by rw [← hw2]; exact HB.out.alloc hsz _)
          have hs2 : w2.heap.size = wr.heap.size + 1 := by rw [← hw2, size_alloc]
          have HSZ2 := Lib.hid hs2
          have hs2' : wr.heap.size < w2.heap.size := by omega
          rw [hw2]
          have c0 : w2.cell? ⟨wr.heap.size, 1, none⟩ = some (.int .i64 (q : Int)) := by rw [Lib.cell_of_heap hblk]; rfl
          have c2 : w2.cell? ⟨wr.heap.size, 2, none⟩ = some (.int .i64 x.frm) := by rw [Lib.cell_of_heap hblk]; rfl
          obtain ⟨hg2, vs, h1, -⟩ := HT2.out
          obtain ⟨tv, tf, tr⟩ := h1 (8 + q) (by omega)
          obtain ⟨-, vs', h1', -⟩ := HTR.out
          obtain ⟨tv', -, tr'⟩ := h1' (8 + q) (by omega)
          have hvv : vs' (8 + q) = vs (8 + q) := by
            have h2 : w2.cell? ⟨w.heap.size, 8 + q, none⟩ = some (vs' (8 + q)) := by rw [← hw2]; exact (((Below.refl wr.heap.size wr).alloc (Nat.le_refl _) _).cell (p := ⟨w.heap.size, 8 + q, none⟩) HTR.out.1).trans tv'
            rw [tv] at h2; exact (Option.some.inj h2).symm
          have hvl : ∀ y, (vs (8 + q)).ownBlock = some y → y < wr.heap.size := fun y hy => (tr'.lt y (by rw [hvv]; exact hy)).2
          generalize vs (8 + q) = v at *
          have hne1 : ¬ (w.heap.size = wr.heap.size) := by have := HTR.out.1; omega
          have hne2 : ¬ (wr.heap.size = w.heap.size) := by omega
          have HVL := Lib.hid hvl
          have HTRR := Lib.hid tr
          have zz : ∀ o', (w2.alloc o').cell? ⟨w.heap.size, 8 + q, none⟩ = some v := fun o' => (((Below.refl w2.heap.size w2).alloc (Nat.le_refl _) o').cell (p := ⟨w.heap.size, 8 + q, none⟩) hg2).trans tv
          have yy : ∀ o', (w2.alloc o').frozen? ⟨w.heap.size, 8 + q, none⟩ = false := fun o' => (((Below.refl w2.heap.size w2).alloc (Nat.le_refl _) o').frozen (p := ⟨w.heap.size, 8 + q, none⟩) hg2).trans tf
          have hbn : ∀ k : Nat, (froms (bs.take j) known k).length ≤ 1000000 := fun k => Nat.le_trans (froms_len _ _ _) (by rw [List.length_take]; omega)
          have HBN := Lib.hid hbn
          clear hvl hvv tr tr' tv' h1 h1' hw2 hblk x0 x1 x2 x3 hs2 hbn
          go_region_law
            ((refine step_append_int (by rfl) _ _ (by rfl) (by rfl) (base := w.heap.size + 1) (b := w2.heap.size) (z := x.frm) (v := v) (l := froms (bs.take j) known (8 + q)) (HTRR.out.below ((Below.refl _ _).drew.alloc (Nat.le_refl _) _)) (by simp; omega) (HBN.out (8 + q)) (by rfl) (World.cell?_alloc_mark w2 #[.int .i64 x.frm] 3 (0, 0) 0) ?_; intro g' c' w3 hrow3 hg3 hat3; have k5 := (hg3.cell_far ⟨w.heap.size, 8 + q, none⟩ (by simp; omega) (fun e => absurd (HTRR.out.lt _ e.symm).1 (Nat.not_succ_le_self _))).trans (zz _); have k6 := (hg3.frozen_far ⟨w.heap.size, 8 + q, none⟩ (by simp; omega) (fun e => absurd (HTRR.out.lt _ e.symm).1 (Nat.not_succ_le_self _))).trans (yy _); have kk := fun o => hg3.cell_far ⟨wr.heap.size, o, none⟩ (by simp; omega) (fun e => absurd (HVL.out _ e.symm) (Nat.lt_irrefl _))))
          all_goals
            go_wp2_with fail
            refine ⟨⟨j + 1, by omega, by push_cast; rfl, ?_, ?_⟩, by simp [intOf]; omega⟩
            · rw [HTK.out]
              refine (TrO.push (TrO.drew (HT2.out.below ((Below.refl _ _).alloc (Nat.le_refl _) (.cells #[.int .i64 x.frm] 3)))) (8 + q) (by omega) v _ (zz _) x.frm hrow3 hg3 ?_).congr fun k => (KN.out k).symm
              rcases hat3 with h | h
              · exact .inl h
              · exact .inr (congrArg some h)
            · exact (((HB2.out.alloc HB2.out.size _).drew).grown hg3 (by simp; omega) (fun k hk => by have := (HTRR.out.lt k hk).1; omega)).setCell (p := ⟨w.heap.size, 8 + q, none⟩) (Nat.le_refl _) _
        · have KN := Lib.hid (froms_none (bs := bs.take j) (known := known) (place_none (b := x) (fun h => k2 h.1) k3))
          have hwn : (decide ((1 : Int) ≤ x.wit) && decide (x.wit ≤ 8)) = false := within_ne k3
          clear k2 k3
          go_wp2_with fail
          refine (within_any x.wit 1 8 _).mono ?_
          rintro e w1 ⟨rfl, rfl⟩
          rw [hwn]
          go_wp2_with fail
          exact ⟨⟨j + 1, by omega, by push_cast; rfl, by rw [HTK.out]; exact (HTR.out.below ((Below.refl _ _).alloc (Nat.le_refl _) _)).congr fun k => (KN.out k).symm, HB.out.alloc hsz _⟩, by simp [intOf]; omega⟩
    · obtain rfl : j = m := by omega
      have htl : bs.take j = bs := List.take_of_length_le (by rw [HM.out]; exact Nat.le_refl _)
      have hd : decide ((j : Int) < (j : Int)) = false := by simp
      have hd2 : decide (j < j) = false := by simp
      rw [htl] at HTR
      go_wp2_with fail
      go_ret
      exact ⟨rfl, HTR.out, HB.out⟩
end Go.Proofs.YtkihcigojhcmgaaDoor

namespace Go.Proofs.YtkihcigojhcmgaaDoor
open Go.RowKit
set_option maxRecDepth 100000

theorem and_one : ∀ k : Nat, k < 256 → bits .and .i64 (k : Int) 1 = ((k % 2 : Nat) : Int) := by decide +kernel

set_option maxHeartbeats 1000000 in
theorem isGood_any (s : Stp) (g : Nat) (bs : List Brk) (known day : Int) (w : World) (hT : TrO w g (froms bs known)) (hL : bs.length ≤ 1000000) :
    Calls Tryd.prog 33 #[.pointer (some ⟨g, 0, none⟩), stv s, .int .i64 day] w fun e w' => e = .returned (.bool (good s bs known day)) ∧ Below w.heap.size w w' := by
  obtain ⟨hg, vs, h1, -⟩ := hT
  have HIV := Lib.hid (fun W => isValid_any s W)
  obtain ⟨w1, hw1⟩ : ∃ w1, w.alloc (.cells #[.int .i64 s.day, .int .i64 s.hash, .int .i64 s.wit, .string ⟨s.val.toArray⟩] 28) = w1 := ⟨_, rfl⟩
  have hblk : w1.heap[w.heap.size]? = some (.cells #[.int .i64 s.day, .int .i64 s.hash, .int .i64 s.wit, .string ⟨s.val.toArray⟩] 28) := by rw [← hw1]; exact heap_last _ _
  have hb1 : Below w.heap.size w w1 := by rw [← hw1]; exact (Below.refl _ w).alloc (Nat.le_refl _) _
  have hlt1 : w.heap.size < w1.heap.size := by rw [← hw1, size_alloc]; omega
  have HB1 := Lib.hid hb1
  have HCE : Hid (∀ wx, Below w1.heap.size w1 wx → wx.cell? ⟨w.heap.size, 0, none⟩ = some (.int .i64 s.day) ∧ wx.cell? ⟨w.heap.size, 1, none⟩ = some (.int .i64 s.hash) ∧ wx.cell? ⟨w.heap.size, 2, none⟩ = some (.int .i64 s.wit) ∧ wx.cell? ⟨w.heap.size, 3, none⟩ = some (.string ⟨s.val.toArray⟩)) := Lib.hid (fun wx hx => by
    have hb := (hx.block w.heap.size hlt1).trans hblk
    refine ⟨?_, ?_, ?_, ?_⟩ <;> (rw [Lib.cell_of_heap hb]; rfl))
  have HTC : Hid (∀ wx, Below w1.heap.size w1 wx → ∀ k, k < 17 → wx.cell? ⟨g, k, none⟩ = some (vs k) ∧ IRow wx (g + 1) (vs k) (froms bs known k)) := Lib.hid (fun wx hx k hk => by
    obtain ⟨h2, -, h3⟩ := h1 k hk
    have hbx := hb1.trans (hx.mono hb1.size)
    exact ⟨(hbx.cell (p := ⟨g, k, none⟩) hg).trans h2, h3.below hbx⟩)
  have HC0 := Lib.hid (Below_drewN (Below.refl w1.heap.size w1) 1)
  have HCN : Hid (∀ wx, Below w1.heap.size w1 wx → Calls Tryd.prog 40 #[stv s] wx fun e w' => e = .returned (.bool (valid s)) ∧ Below w1.heap.size w1 w') := Lib.hid (fun wx hx => (HIV.out wx).mono fun e w' ⟨e1, e2⟩ => ⟨e1, hx.trans (e2.mono hx.size)⟩)
  clear hblk hb1 h1 HIV
  generalize hR : good s bs known day = R
  have HR := Lib.hid hR
  clear hR
  simp only [stv] at *
  cases hval : valid s with
  | false =>
    have hno : R = false := by rw [← HR.out]; exact good_invalid hval
    subst hno
    rw [hval] at HCN
    clear hval
    go_enter Tryd.func33, Tryd.ntmps33
    go_upto_region 1 with fail
    refine region_quietC (C := Below w1.heap.size w1) (by kernel_rfl) (by kernel_rfl) HC0.out ?_
    repeat (
      first
        | go_big_quiet_skip
        | (go_big_quiet_want
           go_big_quiet_op
           first
             | go_big_quiet_on
             | (apply Exists.intro
                refine ⟨fun wx hx => ?_, ?_⟩
                · first
                  | (go_at_call 40; exact HCN.out _ hx)
                  | exact rfl
                  | (obtain ⟨c0, c1, c2, c3⟩ := HCE.out _ hx; go_simp; exact rfl)
                go_big_quiet_on)))
    refine wpQuiet_nil ?_
    intro w2 hw2
    go_wp2_with fail
    go_ret
    exact ⟨rfl, HB1.out.trans (hw2.mono (Nat.le_of_lt hlt1))⟩
  | true =>
    have HVAL := Lib.hid hval
    obtain ⟨-, -, hh0, hh1, hw0, hw256, -⟩ := (valid_iff s).1 hval
    rw [hval] at HCN
    clear hval
    obtain ⟨q, hq⟩ : ∃ q : Nat, s.hash = q := ⟨s.hash.toNat, by omega⟩
    have hq8 : q < 8 := by omega
    obtain ⟨t, ht⟩ : ∃ t : Nat, s.wit = t := ⟨s.wit.toNat, by omega⟩
    have ht256 : t < 256 := by omega
    have i0 : (0 : Int) ≤ (q : Int) := by omega
    have i1 : (q : Int) < 8 := by omega
    obtain ⟨a, c, hvq, -⟩ := ((HTC.out w1 (Below.refl _ _)) q (by omega)).2.isSlice
    have hfr := froms_hash bs known day (q : Int) i0 (by omega)
    rw [Int.toNat_natCast] at hfr
    have HIB : Hid (∀ wx, Below w1.heap.size w1 wx → Calls Tryd.prog 55 #[.slice a (froms bs known q).length c, .int .i64 day] wx fun e w' => e = .returned (.bool (hashGone (q : Int) bs known day)) ∧ Below w1.heap.size w1 w') := Lib.hid (fun wx hx => by
      obtain ⟨a', c', h2, h3⟩ := ((HTC.out wx hx) q (by omega)).2.isSlice
      rw [hvq] at h2
      injection h2 with e1 e2 e3
      subst e1 e3
      rw [← hfr]
      refine (isBroken_any a c _ day wx h3 (Nat.le_trans (froms_len _ _ _) hL)).mono ?_
      rintro e w' ⟨rfl, rfl⟩
      exact ⟨rfl, hx⟩)
    have HTQ : Hid (∀ wx, Below w1.heap.size w1 wx → wx.cell? ⟨g, q, none⟩ = some (.slice a (froms bs known q).length c)) := Lib.hid (fun wx hx => by rw [((HTC.out wx hx) q (by omega)).1, hvq])
    generalize hHG : hashGone (q : Int) bs known day = HG at *
    have HHG := Lib.hid hHG
    have HQ := Lib.hid hq
    have HT := Lib.hid ht
    rw [hq] at HCE HCN hw1 ⊢
    rw [ht] at HCE HCN hw1 ⊢
    generalize (froms bs known q).length = flen at *
    clear hHG hvq hfr hq ht hh0 hh1 hw0 hw256
    go_enter Tryd.func33, Tryd.ntmps33
    go_upto_region 1 with fail
    refine region_quietC (C := Below w1.heap.size w1) (by kernel_rfl) (by kernel_rfl) HC0.out ?_
    repeat (
      first
        | go_big_quiet_skip
        | (go_big_quiet_want
           go_big_quiet_op
           first
             | go_big_quiet_on
             | (apply Exists.intro
                refine ⟨fun wx hx => ?_, ?_⟩
                · first
                  | (go_at_call 40; exact HCN.out _ hx)
                  | (go_at_call 55; exact HIB.out _ hx)
                  | exact rfl
                  | (have hq := HTQ.out _ hx; obtain ⟨c0, c1, c2, c3⟩ := HCE.out _ hx; go_simp; exact rfl)
                go_big_quiet_on)))
    refine wpQuiet_nil ?_
    intro w2 hw2
    have HW2 := Lib.hid hw2
    have hb2 := HB1.out.trans (hw2.mono (Nat.le_of_lt hlt1))
    have HB2 := Lib.hid hb2
    clear hw2 hb2
    cases HG with
    | true =>
      have hno : R = false := by rw [← HR.out]; exact good_hash (by rw [HQ.out]; exact HHG.out)
      subst hno
      go_wp2_with fail
      go_ret
      exact ⟨rfl, HB2.out⟩
    | false =>
    have y2 : w2.cell? ⟨w.heap.size, 2, none⟩ = some (.int .i64 (t : Int)) := (HCE.out _ HW2.out).2.2.1
    clear hw1 HIB HTQ HCN HC0
    go_wp2_with fail
    go_loop [7, 8] (fun n x => ∃ i : Nat, i ≤ 8 ∧ x = .int .i64 ((i : Int) + 1) ∧ n = .int .i64 ((witSum t bs known day i : Nat) : Int)) (fun _ x => 9 - (intOf x).toNat)
    case atStart => exact ⟨0, by omega, rfl, rfl⟩
    case round =>
      obtain ⟨i, hi, rfl, rfl⟩ := hrel
      by_cases hlt : i < 8
      · have hsum : witSum t bs known day (i + 1) = witSum t bs known day i + witOk t bs known day i := rfl
        have HSUM := Lib.hid hsum
        clear hsum
        obtain ⟨tv, tr⟩ := (HTC.out w2 HW2.out) (8 + (i + 1)) (by omega)
        obtain ⟨a', c', hv, hI⟩ := tr.isSlice
        rw [hv] at tv
        have hfl := froms_len bs known (8 + (i + 1))
        have hfw := froms_wit bs known day (i + 1) (by omega) (by omega)
        have HIB := Lib.hid (isBroken_any a' c' _ day w2 hI (Nat.le_trans hfl hL))
        rw [hfw] at HIB
        generalize (froms bs known (8 + (i + 1))).length = flen2 at *
        have j0 : (0 : Int) ≤ (i : Int) := by omega
        have j1 : (i : Int) + 1 ≤ 8 := by omega
        have j2 : (i : Int) + 1 < 9 := by omega
        have j3 : (0 : Int) ≤ (i : Int) + 1 := by omega
        have j4 : ((i : Int) + 1).toNat = i + 1 := by omega
        have hdiv : ((t / 2 ^ i : Nat) : Int) = (t : Int) / 2 ^ i := by push_cast; rfl
        have hand := and_one (t / 2 ^ i) (Nat.lt_of_le_of_lt (Nat.div_le_self _ _) ht256)
        rw [hdiv] at hand
        have hsl := witOk t bs known day i
        have hn : witSum t bs known day i ≤ 8 := by
          have : ∀ n, witSum t bs known day n ≤ n := by
            intro n
            induction n with
            | zero => exact Nat.le_refl _
            | succ n ih => have := witOk_le t bs known day n; simp only [witSum]; omega
          have := this i; omega
        clear hv tr hI hfw hfl hdiv hsl
        by_cases hb : t / 2 ^ i % 2 = 1
        · rw [hb] at hand
          cases hwg : witGone ((i + 1 : Nat) : Int) bs known day with
          | true =>
            have hok : witOk t bs known day i = 0 := by unfold witOk; rw [if_neg]; rintro ⟨-, h2⟩; rw [← Int.natCast_succ, hwg] at h2; cases h2
            rw [hok] at HSUM
            rw [hwg] at HIB
            generalize witSum t bs known day i = n at *
            clear hwg hok hb
            go_wp2_with fail
            refine HIB.out.mono ?_
            rintro e w' ⟨rfl, rfl⟩
            go_wp2_with fail
            go_round
            case rel => exact ⟨i + 1, by omega, by go_num, by rw [HSUM.out, Nat.add_zero]⟩
            case measure => simp [intOf]; omega
          | false =>
            have hok : witOk t bs known day i = 1 := by unfold witOk; rw [if_pos ⟨hb, by rw [← Int.natCast_succ]; exact hwg⟩]
            rw [hok] at HSUM
            rw [hwg] at HIB
            generalize witSum t bs known day i = n at *
            clear hwg hok hb
            go_wp2_with fail
            refine HIB.out.mono ?_
            rintro e w' ⟨rfl, rfl⟩
            go_wp2_with fail
            go_round
            case rel => exact ⟨i + 1, by omega, by go_num, by rw [HSUM.out]; push_cast; rfl⟩
            case measure => simp [intOf]; omega
        · have hb0 : t / 2 ^ i % 2 = 0 := by omega
          have hok : witOk t bs known day i = 0 := by unfold witOk; rw [if_neg]; rintro ⟨h2, -⟩; exact hb h2
          rw [hok] at HSUM
          rw [hb0] at hand
          generalize witSum t bs known day i = n at *
          clear hok hb hb0
          go_wp2_with fail
          go_round
          case rel => exact ⟨i + 1, by omega, by go_num, by rw [HSUM.out, Nat.add_zero]⟩
          case measure => simp [intOf]; omega
      · obtain rfl : i = 8 := by omega
        have hyes : R = decide (2 ≤ ((witSum t bs known day 8 : Nat) : Int)) := by
          rw [← HR.out, Bool.eq_iff_iff, good_iff, decide_eq_true_iff, HQ.out, HT.out, Int.toNat_natCast]
          constructor
          · intro h; have := h.2.2; omega
          · intro h; exact ⟨HVAL.out, HHG.out, by omega⟩
        generalize witSum t bs known day 8 = n at *
        clear HR
        subst hyes
        rw [show (((8 : Nat) : Int) + 1) = 9 from rfl]
        go_wp2_with fail
        go_ret
        exact ⟨rfl, HB2.out⟩
end Go.Proofs.YtkihcigojhcmgaaDoor
