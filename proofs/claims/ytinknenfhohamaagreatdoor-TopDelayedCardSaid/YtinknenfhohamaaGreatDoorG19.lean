/- byClass: the places of the events of each class, in the order of their times. -/
import Derived.Test.YtinknenfhohamaaGreatDoorG18
import Derived.Test.YtinknenfhohamaaGreatDoorG15
import Derived.Test.YtinknenfhohamaaGreatDoorG17
namespace Go.Proofs.YtinknenfhohamaaGreatDoor
open Go.RowKit
set_option maxRecDepth 100000

/-- Classes that the machine can hold. -/
def ClI (L : List Ev) : Prop := ∀ e ∈ L, QI (cls e)
def plTo (L : List Ev) (j : Nat) (q : Cl) : List Nat := (List.range j).filter fun k => decide (cls (L.getD k default) = q)
theorem plTo_next (L : List Ev) (j : Nat) (q : Cl) : plTo L (j + 1) q = if q = cls (L.getD j default) then plTo L j q ++ [j] else plTo L j q := by
  rw [plTo, plTo, List.range_succ, List.filter_append]
  by_cases h : q = cls (L.getD j default)
  · rw [if_pos h, List.filter_cons, if_pos (by simpa using h.symm)]; rfl
  · rw [if_neg h, List.filter_cons, if_neg (by simpa using fun e => h e.symm)]; simp
theorem plTo_le (L : List Ev) (j : Nat) (q : Cl) : (plTo L j q).length ≤ j := by
  have := List.length_filter_le (fun k => decide (cls (L.getD k default) = q)) (List.range j)
  rwa [List.length_range] at this
theorem pl_asc (L : List Ev) (q : Cl) : (pl L q).Pairwise (· < ·) := List.Pairwise.filter _ List.pairwise_lt_range
/-- A row of places, read alone. -/
def RowR (W : World) (B : Nat) (h : Hd) (S : List Nat) : Prop := (h = none ∧ S = []) ∨ ∃ g c, h = some (g, S.length, c) ∧ B ≤ g ∧ g < W.heap.size ∧ IR W g S
theorem Below.of_grown0 {w w' : World} (h : w.grownBy w' none) : Below w.heap.size w w' := ⟨h.os, h.tape, h.output, h.size, fun i hi => h.block i hi (by simp)⟩
theorem IR.kept {W W' : World} {g : Nat} {S : List Nat} {row : Option Nat} (h : IR W g S) (hl : g < W.heap.size) (hg : W.grownBy W' row) (hne : some g ≠ row) : IR W' g S := by
  intro j x hj
  obtain ⟨h1, h2⟩ := h j x hj
  have hb := hg.block g hl hne
  exact ⟨(World.cell?_of_block (a := ⟨g, j, none⟩) hb).trans h1, by rw [← h2]; unfold World.frozen?; rw [hb]⟩
theorem RowR.kept {W W' : World} {B : Nat} {h : Hd} {S : List Nat} {row : Option Nat} (hr : RowR W B h S) (hg : W.grownBy W' row) (hne : ∀ g l c, h = some (g, l, c) → some g ≠ row) : RowR W' B h S := by
  rcases hr with hr | ⟨g, c, h1, h2, h3, h4⟩
  · exact .inl hr
  · exact .inr ⟨g, c, h1, h2, Nat.lt_of_lt_of_le h3 hg.size, h4.kept h3 hg (hne _ _ _ h1)⟩
theorem RowR.mono {W : World} {B B' : Nat} {h : Hd} {S : List Nat} (hr : RowR W B h S) (hb : B' ≤ B) : RowR W B' h S := by
  rcases hr with hr | ⟨g, c, h1, h2, h3⟩
  · exact .inl hr
  · exact .inr ⟨g, c, h1, Nat.le_trans hb h2, h3⟩
theorem Grp.here {W : World} {B b n : Nat} {D : DataW Unit} {f : Cl → Hd} {T : Cl → List Nat} (h : Grp W B b n D f T) {q : Cl} (hq : QI q) (hno : Maps.has D (kl q) = false) : f q = none := by
  have h1 := h.at' q hq
  rw [Maps.atKey_of_not_has hno] at h1
  exact hdD_inj (y := none) h1.symm
/-- What byClass returns. -/
def GroupsAt (W : World) (B b : Nat) (D : DataW Unit) (f : Cl → Hd) (L : List Ev) : Prop :=
  W.ownsMap Tryz.prog 71 hdR b 1000 D ∧ (∀ q, QI q → D.atKey (kl q) .nil = hdD (f q)) ∧ (∀ q, QI q → f q = none → Maps.has D (kl q) = false) ∧ ∀ q, QI q → ∃ S, Sorted L q S ∧ RowR W B (f q) S
theorem zeroInts (w : World) : (zeroValue 76).run Tryz.prog w = .ok (.slice none 0 0) w := by kernel_rfl
theorem own_look {W : World} {b n : Nat} {D : DataW Unit} {f : Cl → Hd} (h : W.ownsMap Tryz.prog 71 hdR b n D) (hat : ∀ q, QI q → D.atKey (kl q) .nil = hdD (f q)) {q : Cl} (hq : QI q) :
    (Instr.lookup 74 (.map (some b)) (qV q) false).run Tryz.prog W = .ok (hdV (f q)) W := by
  obtain ⟨v, ps, hr, hv⟩ := h.lookup lawC Tryz.underlying74 (zeroInts W) (zd := .nil) (zp := []) rfl (keyOf_kl hq)
  obtain ⟨x, rfl, hx⟩ := hdR_inv hv
  rw [hat q hq] at hx
  injection hx with hx _
  rw [hdD_inj hx]; exact hr
theorem Grp.own_ne {W : World} {B b n : Nat} {D : DataW Unit} {f : Cl → Hd} {T : Cl → List Nat} (h : Grp W B b n D f T) {q : Cl} (hq : QI q) {k : Nat} {o : Obj} (hk : W.heap[k]? = some o) (ho : ∀ cur, o ≠ .cells cur 3 (0, 0)) : some k ≠ (hdV (f q)).ownBlock := by
  intro he
  have hr := h.row q hq
  cases hf : f q with
  | none => rw [hf] at he; cases he
  | some x =>
    obtain ⟨g, l, c⟩ := x
    rw [hf] at he hr
    injection he with he
    simp only at he
    subst he
    obtain ⟨cur, hc, -⟩ := hr.block
    rw [hk] at hc
    injection hc with hc
    exact ho cur hc
theorem plTo_fun {L : List Ev} {j : Nat} {e : Ev} (h : L[j]? = some e) : (fun q => if q = cls e then plTo L j (cls e) ++ [j] else plTo L j q) = plTo L (j + 1) := by
  funext q
  rw [plTo_next, getD_ev h]
  by_cases hq : q = cls e
  · rw [if_pos hq, if_pos hq, hq]
  · rw [if_neg hq, if_neg hq]
set_option maxHeartbeats 4000000 in
theorem byClass_any (a : Option Addr) (c : Nat) (L : List Ev) (w : World) (hS : EvS w a L) (hL : L.length < 40) (hC : ClI L) :
    Calls Tryz.prog 23 #[.slice a L.length c] w fun e w' => ∃ b D f, e = .returned (.map (some b)) ∧ w.heap.size ≤ b ∧ GroupsAt w' w.heap.size b D f L ∧ Below w.heap.size w w' := by
  obtain ⟨n, hn⟩ : ∃ n, L.length = n := ⟨_, rfl⟩
  have HN := Lib.hid hn
  rw [hn] at hL ⊢
  have HS := Lib.hid hS
  have HCI := Lib.hid hC
  clear hS hC hn
  have hmm := @run_makeMap Tryz.prog
  go_enter Tryz.func23, Tryz.ntmps23
  go_wp2_with fail
  obtain ⟨w1, hw1⟩ : ∃ w1, (w.alloc (.cells #[.slice a n c] 24)).alloc (.map #[] 0) = w1 := ⟨_, rfl⟩
  have HB1 : Hid (Below w.heap.size w w1) := Lib.hid (by rw [← hw1]; exact ((Below.refl _ _).alloc (Nat.le_refl _) _).alloc (by rw [size_alloc]; omega) _)
  have HG1 : Hid (Grp w1 (w.heap.size + 1) (w.heap.size + 1) 0 (.map []) (fun _ => none) (fun _ => [])) := Lib.hid (by
    have := Grp.made (w.alloc (.cells #[.slice a n c] 24)) (w.heap.size + 1)
    rw [size_alloc] at this
    rw [← hw1]; exact this)
  have HBX : Hid (w1.cell? ⟨w.heap.size, 0, none⟩ = some (.slice a n c)) := Lib.hid (by
    rw [← hw1, Lib.cell_of_heap (heap_back _ _ _ (heap_last _ _))]; rfl)
  have HS1 : Hid (w1.heap.size = w.heap.size + 2) := Lib.hid (by rw [← hw1, size_alloc, size_alloc])
  rw [hw1]
  clear hw1 hmm
  go_loopw [4, 5, 11] (fun _ _ p wx => ∃ (j m : Nat) (D : DataW Unit) (f : Cl → Hd), j ≤ n ∧ m ≤ j ∧ p = .int .i64 j ∧ Grp wx (w.heap.size + 1) (w.heap.size + 1) m D f (plTo L j) ∧ Below w.heap.size w wx ∧ w1.heap.size ≤ wx.heap.size ∧ wx.cell? ⟨w.heap.size, 0, none⟩ = some (.slice a n c)) (fun _ _ p _ => n - (intOf p).toNat)
  case atStart => exact ⟨0, 0, _, _, by omega, by omega, rfl, HG1.out, HB1.out, Nat.le_refl _, HBX.out⟩
  case round =>
    obtain ⟨j, m, D, f, hj, hm, rfl, hG, hb, hsz, hbx⟩ := hrel
    have HG := Lib.hid hG
    have HB := Lib.hid hb
    have HSZ := Lib.hid hsz
    have HBX := Lib.hid hbx
    clear hG hsz hbx
    by_cases hlt : j < n
    · obtain ⟨e, he⟩ : ∃ e, L[j]? = some e := ⟨_, List.getElem?_eq_getElem (by rw [HN.out]; exact hlt)⟩
      obtain ⟨b, o, rfl, hbl, x0, x1, x2, x3⟩ := (HS.out.below hb) j e he
      have HE := Lib.hid he
      clear hb
      have n0 : (0 : Int) ≤ (j : Int) := by omega
      have n1 : (j : Int) < (n : Int) := by omega
      have hd : decide ((j : Int) < (n : Int)) = true := by rw [decide_eq_true_iff]; omega
      have hd2 : decide (j < n) = true := by rw [decide_eq_true_iff]; omega
      have HQ := Lib.hid (HCI.out e (List.mem_of_getElem? he))
      have HOF := Lib.hid (fun W => of_any e W)
      simp only [evV, clsV] at HOF
      go_upto_region 5 with fail
      obtain ⟨wa, hwa⟩ : ∃ wa, wr.alloc (.cells #[.int .i64 e.tm, .int .i64 e.kd, .int .i64 e.a, .int .i64 e.b] 28) = wa := ⟨_, rfl⟩
      have HBW : Hid (Below wr.heap.size wr wa) := Lib.hid (by rw [← hwa]; exact (Below.refl _ _).alloc (Nat.le_refl _) _)
      have HEA : Hid (wa.heap[wr.heap.size]? = some (.cells #[.int .i64 e.tm, .int .i64 e.kd, .int .i64 e.a, .int .i64 e.b] 28 (0, 0))) := Lib.hid (by rw [← hwa]; exact heap_last _ _)
      have HLT : Hid (wr.heap.size < wa.heap.size) := Lib.hid (by rw [← hwa, size_alloc]; omega)
      rw [hwa]
      clear hwa x0 x1 x2 x3 hbl
      have HGA := Lib.hid (HG.out.kept (Below.grown0 HBW.out))
      have HEQ := Lib.hid (show ∃ BB : World → Prop, BB = fun wx => wx.heap[wr.heap.size]? = some (.cells #[.int .i64 e.tm, .int .i64 e.kd, .int .i64 e.a, .int .i64 e.b] 28 (0, 0)) ∧ wx.ownsMap Tryz.prog 71 hdR (w.heap.size + 1) m D from ⟨_, rfl⟩)
      obtain ⟨BB, hBB⟩ := HEQ.out
      have HBB : Hid (∀ wx, BB wx ↔ wx.heap[wr.heap.size]? = some (.cells #[.int .i64 e.tm, .int .i64 e.kd, .int .i64 e.a, .int .i64 e.b] 28 (0, 0)) ∧ wx.ownsMap Tryz.prog 71 hdR (w.heap.size + 1) m D) := Lib.hid (fun wx => by rw [hBB])
      clear hBB HEQ
      have HBK : Hid (∀ wx w', BB wx → Below wx.heap.size wx w' → BB w') := Lib.hid (fun wx w' h hb => by
        rw [HBB.out] at h ⊢
        exact ⟨(hb.block _ (Array.getElem?_eq_some_iff.1 h.1).1).trans h.1, h.2.kept (Below.grown0 hb) (by simp)⟩)
      have HCC : Hid (∀ wx, BB wx → (wx.cell? ⟨wr.heap.size, 0, none⟩ = some (.int .i64 e.tm) ∧ wx.cell? ⟨wr.heap.size, 1, none⟩ = some (.int .i64 e.kd) ∧ wx.cell? ⟨wr.heap.size, 2, none⟩ = some (.int .i64 e.a) ∧ wx.cell? ⟨wr.heap.size, 3, none⟩ = some (.int .i64 e.b))) := Lib.hid (fun wx hx => by
        have hb := ((HBB.out wx).1 hx).1
        refine ⟨?_, ?_, ?_, ?_⟩ <;> (rw [Lib.cell_of_heap hb]; rfl))
      have HAT := Lib.hid HG.out.at'
      have HLK : Hid (∀ wx, BB wx → (Instr.lookup 74 (.map (some (w.heap.size + 1))) (.agg #[.int .i64 e.kd, .int .i64 e.a, .int .i64 e.b]) false).run Tryz.prog wx = .ok (hdV (f (cls e))) wx) := Lib.hid (fun wx hx => own_look ((HBB.out wx).1 hx).2 HAT.out HQ.out)
      have HCA : Hid (∀ wx, BB wx → Calls Tryz.prog 21 #[.agg #[.int .i64 e.tm, .int .i64 e.kd, .int .i64 e.a, .int .i64 e.b]] wx fun z w' => z = .returned (.agg #[.int .i64 e.kd, .int .i64 e.a, .int .i64 e.b]) ∧ BB w' ∧ Below wx.heap.size wx w') := Lib.hid (fun wx hx => (HOF.out wx).mono fun r w' ⟨h1, h2⟩ => ⟨h1, HBK.out _ _ hx h2, h2⟩)
      have HB0 : Hid (BB wa.drew) := Lib.hid ((HBB.out _).2 ⟨HEA.out, HGA.out.own⟩)
      refine region_stage (B := BB) 8 (by kernel_rfl) (by kernel_rfl) (by intro _ _ _ d _ h; cases d <;> exact h) HB0.out ?_
      simp only [List.take_succ_cons, List.take_zero, List.drop_succ_cons, List.drop_zero]
      repeat (
        refine wpR_step (fun K hK => ?_)
        go_simp
        first
          | (refine hK _ ?_; clear hK K)
          | (apply Exists.intro
             refine ⟨fun wx hx => ?_, hK _ ?_⟩
             · first
               | exact uponR_value
               | exact uponR_skip
               | exact uponR_enter (f := 21) (HCA.out _ hx)
               | (obtain ⟨c0, c1, c2, c3⟩ := HCC.out _ hx; go_simp; exact uponR_value)
               | (have hlk := HLK.out _ hx; go_simp; exact uponR_value)
             clear hK K))
      refine wpR_nil ?_
      have HPL := Lib.hid (plTo_le L j (cls e))
      have HSA : Hid (w.heap.size + 1 ≤ wa.heap.size) := Lib.hid (by have h2 := HSZ.out; have h3 := HS1.out; have h4 := HLT.out; omega)
      have HBA := Lib.hid (HB.out.trans (HBW.out.mono HB.out.size))
      refine wpT_more (fun w2 hw2 => ?_)
      have hb2 : Below wa.heap.size wa w2 := (Below_drewN (Below.refl wa.heap.size wa) 1).trans hw2.2
      have HGB := Lib.hid (HGA.out.kept (Below.grown0 hb2))
      have HBB2 := Lib.hid hw2.1
      have HS2 := Lib.hid (Nat.le_trans HSA.out hb2.size)
      have HB2 := Lib.hid (HBA.out.trans (hb2.mono HBA.out.size))
      have HWA2 := Lib.hid hb2.size
      have HBA2 := Lib.hid (HBW.out.trans (hb2.mono HBW.out.size))
      clear hw2 hb2
      go_wp2_with fail
      obtain ⟨w3, hw3⟩ : ∃ w3, w2.alloc (.cells #[.int .i64 (j : Int)] 3) = w3 := ⟨_, rfl⟩
      have hb3 : Below w2.heap.size w2 w3 := by rw [← hw3]; exact (Below.refl _ _).alloc (Nat.le_refl _) _
      have HX3 : Hid (w3.heap[w2.heap.size]? = some (.cells #[.int .i64 (j : Int)] 3 (0, 0))) := Lib.hid (by rw [← hw3]; exact heap_last _ _)
      rw [hw3]
      clear hw3
      refine TQ_normal ⟨HBK.out _ _ HBB2.out hb3, ?_⟩
      refine wpT_more (fun w4 hw4 => ?_)
      have hb4 : Below w3.heap.size w3 w4 := hw4.2
      have hb24 := hb3.trans (hb4.mono hb3.size)
      have HG4 := Lib.hid (HGB.out.kept (Below.grown0 hb24))
      have HBB4 := Lib.hid hw4.1
      have HS4 := Lib.hid (Nat.le_trans HS2.out hb24.size)
      have HB4 := Lib.hid (HB2.out.trans (hb24.mono HB2.out.size))
      have HW4 := Lib.hid (Nat.le_trans HWA2.out hb24.size)
      have HBX4 := Lib.hid (HBA2.out.trans (hb24.mono HBA2.out.size))
      have HX4 : Hid (w4.cell? ⟨w2.heap.size, 0, none⟩ = some (.int .i64 (j : Int))) := Lib.hid (by
        rw [Lib.cell_of_heap ((hb4.block _ (Array.getElem?_eq_some_iff.1 HX3.out).1).trans HX3.out)]; rfl)
      clear hw4 hb3 hb4 hb24
      go_wp2_with (at_builtin; refine append_place rfl _ _ rfl (B := w.heap.size + 1) (h := f (cls e)) (S := plTo L j (cls e)) (j := j) (by rfl) (HG4.out.row _ HQ.out) HS4.out (by have := HPL.out; omega) (by rfl) HX4.out ?_; intro g cap w5 hr5 hg5 hat5)
      have HBB5 : Hid (BB w5) := Lib.hid (by
        have h4 := (HBB.out _).1 HBB4.out
        refine (HBB.out _).2 ⟨(hg5.block _ (Array.getElem?_eq_some_iff.1 h4.1).1 (HG4.out.own_ne HQ.out h4.1 (by intro cur h; cases h))).trans h4.1, ?_⟩
        obtain ⟨es, clock, hb, _⟩ := h4.2
        exact h4.2.kept hg5 (HG4.out.own_ne HQ.out hb (by intro cur h; cases h)))
      have HR5 := Lib.hid hr5
      have HG5 := Lib.hid hg5
      have HAT5 := Lib.hid hat5
      clear hr5 hg5 hat5
      refine TQ_normal ⟨HBB5.out, ?_⟩
      refine wpT_last (fun w6 hw6 => ?_)
      have HR6 : Hid (RowH w6 (w.heap.size + 1) (some (g, (plTo L j (cls e)).length + 1, cap)) (plTo L j (cls e) ++ [j])) := Lib.hid (World.ownsRow.kept HR5.out (Below.grown0 hw6.2) (.inr (by simp [hdV, Value.ownBlock])))
      have HG6 : Hid (w4.grownBy w6 (hdV (f (cls e))).ownBlock) := Lib.hid (grown_trans HG5.out ((Below.grown0 hw6.2).but _))
      have HO6 := Lib.hid ((HBB.out _).1 hw6.1).2
      clear hw6
      go_wp2_with (at_mapUpdate; refine wpList_mapUpdate_own _ rfl _ _ _ 74 rfl 71 76 lawC Tryz.underlying74 hdR (w.heap.size + 1) m D rfl HO6.out (by unfold maxLen; omega) _ _ (kl (cls e)) rfl rfl (keyOf_kl HQ.out) (hdD (some (g, (plTo L j (cls e)).length + 1, cap))) [] rfl ?_; intro w7 ho7 hg7)
      have HG7 : Hid (Grp w7 (w.heap.size + 1) (w.heap.size + 1) (m + 1) (D.put (kl (cls e)) (hdD (some (g, (plTo L j (cls e)).length + 1, cap)))) (fun q => if q = cls e then some (g, (plTo L j (cls e)).length + 1, cap) else f q) (plTo L (j + 1))) := Lib.hid (by
        rw [← plTo_fun HE.out]
        exact HG4.out.next HQ.out ⟨rfl, rfl, rfl, Nat.le_refl _, fun _ _ _ => rfl⟩ HG6.out HR6.out HAT5.out ho7 hg7)
      have HBF : Hid (Below w.heap.size w w7) := Lib.hid (by
        have h1 : ∀ k, (hdV (f (cls e))).ownBlock = some k → w.heap.size + 1 ≤ k := fun k hk => (World.ownsRow.lt (HG4.out.row _ HQ.out) k hk).1
        exact (HB4.out.grown HG6.out HB4.out.size (fun k hk => Nat.le_of_succ_le (h1 k hk))).grown hg7 (Nat.le_trans HB4.out.size HG6.out.size) (fun k hk => by injection hk with hk; omega))
      have HSF : Hid (w1.heap.size ≤ w7.heap.size) := Lib.hid (by have h1 := HSZ.out; have h2 := HBW.out.size; have h3 := HG6.out.size; have h4 := hg7.size; have h5 := HW4.out; omega)
      have HXF : Hid (w7.cell? ⟨w.heap.size, 0, none⟩ = some (.slice (some ⟨b, o, none⟩) n c)) := Lib.hid (by
        have h0 : w.heap.size < wr.heap.size := by have h1 := HSZ.out; have h2 := HS1.out; omega
        have h1 := (HBX4.out.cell (p := ⟨w.heap.size, 0, none⟩) h0).trans HBX.out
        have hl := Nat.lt_of_lt_of_le h0 HBX4.out.size
        have h6 : w6.heap[w.heap.size]? = w4.heap[w.heap.size]? := HG6.out.block _ hl (fun he => by have := (World.ownsRow.lt (HG4.out.row _ HQ.out) _ he.symm).1; omega)
        have h7 : w7.heap[w.heap.size]? = w6.heap[w.heap.size]? := hg7.block _ (Nat.lt_of_lt_of_le hl HG6.out.size) (by simp)
        rw [← h1]
        exact World.cell?_of_block (a := ⟨w.heap.size, 0, none⟩) (h7.trans h6))
      refine TQ_normal ?_
      go_wp2_with fail
      exact ⟨⟨j + 1, m + 1, _, _, by omega, by omega, by push_cast; rfl, HG7.out, HBF.out, HSF.out, HXF.out⟩, by simp [intOf]; omega⟩
    · obtain rfl : j = n := by omega
      have hd : decide ((j : Int) < (j : Int)) = false := by simp
      have hd2 : decide (j < j) = false := by simp
      have HPL : Hid (plTo L j = pl L) := Lib.hid (by funext q; rw [plTo, pl, HN.out])
      have hG := HG.out
      rw [HPL.out] at hG
      have HG := Lib.hid hG
      obtain ⟨r, hr⟩ : ∃ r, wr.heap.size = r := ⟨_, rfl⟩
      have HR := Lib.hid hr
      have HFG : Hid (∀ q, QI q → ∀ g l k, f q = some (g, l, k) → w.heap.size + 1 ≤ g ∧ g < r ∧ w.heap.size + 1 ≠ g) := Lib.hid (fun q hq g l k hf => by
        have h1 := HG.out.row q hq
        rw [hf] at h1
        exact ⟨h1.lt.1, by rw [← HR.out]; exact h1.lt.2, HG.out.ne h1⟩)
      have HRW : Hid (∀ q, QI q → RowR wr (w.heap.size + 1) (f q) (pl L q)) := Lib.hid (fun q hq => by
        have h1 := HG.out.row q hq
        cases hf : f q with
        | none =>
          rw [hf] at h1
          rcases h1.2 with ⟨-, h2⟩ | ⟨g, cap, cur, h2, -⟩
          · exact .inl ⟨rfl, List.length_eq_zero_iff.1 h2⟩
          · cases h2
        | some x =>
          obtain ⟨g, l, k⟩ := x
          rw [hf] at h1
          obtain ⟨cur, -, hl⟩ := h1.block
          exact .inr ⟨g, k, by rw [hl], h1.lt.1, h1.lt.2, h1.ir⟩)
      clear hG hr
      go_wp2_with (at_range; refine wpList_range_own _ rfl _ 74 rfl 71 76 lawC Tryz.underlying74 hdR (w.heap.size + 1) m D rfl HG.out.own ?_; intro w0 hrg0 hg0 hs0)
      rw [HR.out] at hrg0 ⊢
      have HRG0 := Lib.hid hrg0
      have HGR0 := Lib.hid hg0
      clear hrg0 hg0 hs0
      go_frame
      go_loopw [7] (fun _ wx => ∃ (left : Lit → Bool) (cnt : Nat), wx.ranges Tryz.prog 71 hdR (w.heap.size + 1) r m D left cnt ∧ (∀ q, QI q → ∃ S, (left (kl q) = true → S = pl L q) ∧ (left (kl q) = false → Sorted L q S) ∧ RowR wx (w.heap.size + 1) (f q) S) ∧ Below w.heap.size w wx ∧ wx.cell? ⟨w.heap.size, 0, none⟩ = some (.slice a j c)) (fun _ wx => wx.rangeLeft (w.heap.size + 1) r)
      case atStart =>
        refine ⟨_, _, HRG0.out, fun q hq => ?_, HB.out.trans (Below.mono (Below.of_grown0 HGR0.out) HB.out.size), HGR0.out.cell HBX.out (by simp)⟩
        refine ⟨pl L q, fun _ => rfl, fun hno => ?_, (HRW.out q hq).kept HGR0.out (by simp)⟩
        have hn := HG.out.here hq hno
        have h1 := HRW.out q hq
        rcases h1 with ⟨-, h1⟩ | ⟨g, k, h1, -⟩
        · exact ⟨List.Perm.refl _, by rw [h1]; exact List.Pairwise.nil⟩
        · rw [hn] at h1; cases h1
      case round =>
        obtain ⟨wo, rfl⟩ : ∃ wo, wo = wr := ⟨_, rfl⟩
        obtain ⟨left, cnt, hrg, hrows, hbw, hbx⟩ := hrel
        have HRG := Lib.hid hrg
        have HROWS := Lib.hid hrows
        have HBW := Lib.hid hbw
        have HBX2 := Lib.hid hbx
        clear hrg hrows hbw hbx HB1 HG1 HS1 HSZ hb
        go_wp2_with (at_next; refine wpList_next_ranges _ rfl _ rfl 71 lawC hdR qV hdV (fun key kl' hkey => by obtain ⟨q, -, hq⟩ := keyOf_inv hkey; exact ⟨q, hq⟩) (fun v y hv => by obtain ⟨x, hx, -⟩ := hdR_inv hv; exact ⟨x, hx⟩) (w.heap.size + 1) r m D left cnt rfl HRG.out ?_ ?_)
        · intro _ hl0
          have HF : Hid (GroupsAt wo w.heap.size (w.heap.size + 1) D f L) := Lib.hid (by
            refine ⟨HRG.out.owns.mono (by omega), HG.out.at', HG.out.no, fun q hq => ?_⟩
            obtain ⟨S, -, h2, h3⟩ := HROWS.out q hq
            exact ⟨S, h2 (hl0 _), h3.mono (Nat.le_succ _)⟩)
          clear hl0
          go_wp2_with fail
          go_ret
          exact ⟨_, D, f, rfl, Nat.le_succ _, HF.out, HBW.out⟩
        · intro a1 a2 a3 h kl' y1 y2 w2 cnt' hkey hleft hv hat hrg2 hcnt hg2 hs2 hen
          obtain ⟨q, hq⟩ : ∃ q : Cl, q = (a1, a2, a3) := ⟨_, rfl⟩
          have hkey0 := hkey
          rw [← hq] at hkey hen ⊢
          obtain ⟨q', hqi, hqq⟩ := keyOf_inv hkey
          obtain rfl : q = q' := qV_inj hqq
          have hkl : kl' = kl q := by rw [keyOf_kl hqi] at hkey; injection hkey with hkey; exact hkey.symm
          subst hkl
          obtain ⟨x, hx1, hx2⟩ := hdR_inv hv
          have hxh : h = x := by
            have h1 := hdR_hd h
            rw [hx1, hdR_hd] at h1
            injection h1 with h1
            injection h1 with h1 _
            exact (hdD_inj h1).symm
          subst hxh
          injection hx2 with hx2 _
          have hfq : f q = h := hdD_inj (by rw [← HG.out.at' q hqi, hat, hx2])
          have hfn : h ≠ none := by
            intro hn
            have h1 := Maps.has_true_of_atKey hat
            rw [HG.out.no q hqi (by rw [hfq, hn])] at h1
            cases h1
          obtain ⟨⟨g, l, k⟩, rfl⟩ := Option.ne_none_iff_exists'.1 hfn
          have HFQ := Lib.hid hfq
          obtain ⟨S, hS1, -, hS3⟩ := HROWS.out q hqi
          have hS := hS1 hleft
          subst hS
          rcases hS3 with ⟨h0, -⟩ | ⟨g', k', h0, -, hgl, hir⟩
          · rw [hfq] at h0; cases h0
          rw [hfq] at h0
          injection h0 with h0
          injection h0 with e1 h0
          injection h0 with e2 e3
          subst e1 e3
          obtain ⟨hg1, hgr, hgb⟩ := HFG.out q hqi _ _ _ hfq
          have hplne := HG.out.pos q hqi (by rw [hfq]; simp)
          obtain ⟨i0, hi0⟩ := List.exists_mem_of_ne_nil _ hplne
          obtain ⟨hi0, -⟩ := mem_pl.1 hi0
          obtain ⟨gl, o, rfl, hgl0, -⟩ := HS.out i0 _ (List.getElem?_eq_getElem hi0)
          have hN40 : (pl L q).length < 40 := by
            have h1 : (pl L q).length ≤ L.length := by
              have := List.length_filter_le (fun k => decide (cls (L.getD k default) = q)) (List.range L.length)
              rwa [List.length_range] at this
            have h2 := HN.out
            omega
          have HT2 : Hid (TimesAt w2 w.heap.size gl o j c (tmAt L)) := Lib.hid ⟨hg2.cell HBX2.out (by intro he; injection he with he; simp only at he; omega), fun i hi => by
            obtain ⟨ev, hev0⟩ : ∃ ev, L[i]? = some ev := ⟨_, List.getElem?_eq_getElem (by rw [HN.out]; exact hi)⟩
            obtain ⟨b1, o1, hb1, hl1, hev⟩ := (HS.out.below HBW.out) i ev hev0
            injection hb1 with hb1
            injection hb1 with e1 e2 _
            subst e1 e2
            have := hg2.cell (a := ⟨gl, o + i * 4, none⟩) hev.1 (by intro he; injection he with he; simp only at he; omega)
            rw [this, tmAt, getD_ev hev0]⟩
          have HI2 : Hid (IR w2 g (pl L q)) := Lib.hid (hir.kept hgl hg2 (by intro he; injection he with he; omega))
          have HRG2 := Lib.hid hrg2
          have HG2 := Lib.hid hg2
          have HCN := Lib.hid hcnt
          subst e2
          have HSO := Lib.hid (sortStable_any g k (pl L q).length w.heap.size gl o j c (tmAt L) (pl L q) w2 HI2.out HT2.out (by omega) (by omega) rfl hN40 (by omega) (pl_asc L q) (fun x hx => by have := (mem_pl.1 hx).1; rw [HN.out] at this; exact this))
          have HQI := Lib.hid hqi
          simp only [hdV] at hen ⊢
          clear hkey hkey0 hleft hv hat hrg2 hcnt hg2 hs2 hS1 hir hx1 hfn hx2 hplne hqq hq hfq hqi hi0
          go_wp2_with fail
          refine HSO.out.mono ?_
          rintro e w3 ⟨rfl, S', hp, hs, hr3, hg3⟩
          have HRF : Hid (w3.ranges Tryz.prog 71 hdR (w.heap.size + 1) r m D (fun z => left z && !z.sameKey (kl q)) cnt') := Lib.hid (HRG2.out.kept hg3 (by simpa using hgb) (by simp; omega))
          have HGW : Hid (∀ q', QI q' → q' ≠ q → ∀ S, RowR wo (w.heap.size + 1) (f q') S → RowR w3 (w.heap.size + 1) (f q') S) := Lib.hid (fun q' hq' hne S hr => by
            refine (hr.kept HG2.out (fun g' l' c' hf he => ?_)).kept hg3 (fun g' l' c' hf he => ?_)
            · injection he with he
              have := (HFG.out q' hq' _ _ _ hf).2.1
              omega
            · injection he with he
              subst he
              exact hne (HG.out.apart q' q hq' HQI.out _ _ _ _ _ hf HFQ.out))
          have HRQ : Hid (RowR w3 (w.heap.size + 1) (f q) S' ∧ Sorted L q S') := Lib.hid ⟨.inr ⟨g, k, by rw [HFQ.out, hp.length_eq], hg1, Nat.lt_of_lt_of_le hgl (Nat.le_trans HG2.out.size hg3.size), hr3⟩, hp, hs⟩
          have HRO : Hid (∀ q', QI q' → ∃ S, ((fun z : Lit => left z && !z.sameKey (kl q)) (kl q') = true → S = pl L q') ∧ ((fun z : Lit => left z && !z.sameKey (kl q)) (kl q') = false → Sorted L q' S) ∧ RowR w3 (w.heap.size + 1) (f q') S) := Lib.hid (fun q' hq' => by
            by_cases hne : q' = q
            · subst hne
              refine ⟨S', fun h => ?_, fun _ => HRQ.out.2, HRQ.out.1⟩
              simp [WideAt.sameKey_self (kl_key hq')] at h
            · obtain ⟨S, s1, s2, s3⟩ := HROWS.out q' hq'
              have hk : (kl q').sameKey (kl q) = false := Maps.sameKey_ne (fun he => hne (kl_inj hq' HQI.out he))
              exact ⟨S, fun h => s1 (by simpa [hk] using h), fun h => s2 (by simpa [hk] using h), HGW.out q' hq' hne S s3⟩)
          have HBW3 : Hid (Below w.heap.size w w3) := Lib.hid ((HBW.out.grown HG2.out HBW.out.size (fun k hk => by injection hk with hk; omega)).grown hg3 (Nat.le_trans HBW.out.size HG2.out.size) (fun k hk => by injection hk with hk; omega))
          have HBX3 : Hid (w3.cell? ⟨w.heap.size, 0, none⟩ = some (.slice (some ⟨gl, o, none⟩) j c)) := Lib.hid (hg3.cell HT2.out.1 (by intro he; injection he with he; simp only at he; omega))
          clear hp hs hr3 hg3
          go_wp2_with fail
          exact ⟨⟨_, _, HRF.out, HRO.out, HBW3.out, HBX3.out⟩, by rw [HRF.out.left_eq, HRG.out.left_eq]; exact HCN.out⟩
end Go.Proofs.YtinknenfhohamaaGreatDoor
