/- Due, of the reference and of the program. Due of the program. -/
import Derived.Test.YtkihcigojhcmgaaDoorG13
namespace Go.Proofs.YtkihcigojhcmgaaDoor
open Go.RowKit
set_option maxRecDepth 100000

/-- What Due and Since return: a day, or none. -/
def dayV : Option Int → Value
  | none => .tuple #[.int .i64 0, .bool false]
  | some d => .tuple #[.int .i64 d, .bool true]
theorem due_nil (bs : List Brk) (day : Int) : due [] bs day = none := rfl
theorem due_at (L : List Stp) (i : Nat) (p : Stp) (bs : List Brk) (day : Int) (h : L[i]? = some p) (hl : L.length = i + 1) : due L bs day = if day ≤ 100000 ∧ good p bs day day = true then some (dueOf p bs day) else none := by
  have : L.getLast? = some p := by rw [List.getLast?_eq_getElem?, hl, Nat.add_sub_cancel, h]
  unfold due
  rw [this]
theorem dueF_step (s : Stp) (bs : List Brk) (day d : Int) (b : Brk) (hd : d ≤ 100000) : dueF s bs day d b = if b.frm ≤ day ∨ d < b.frm then d else if good s bs day b.frm = true then d else b.frm - 1 := by
  unfold dueF
  by_cases h1 : b.frm ≤ day ∨ d < b.frm
  · rw [if_pos h1]
    split
    · omega
    · rfl
  · rw [if_neg h1]
    cases hg : good s bs day b.frm with
    | true => rw [if_neg (by simp), if_pos rfl]
    | false => rw [if_pos ⟨by omega, by omega, rfl⟩, if_neg (by simp)]; omega
theorem dueT_le (s : Stp) (bs : List Brk) (day : Int) (cs : List Brk) : cs.foldl (dueF s bs day) 100000 ≤ 100000 := by
  have key : ∀ (cs : List Brk) (d : Int), d ≤ 100000 → cs.foldl (dueF s bs day) d ≤ 100000 := by
    intro cs
    induction cs with
    | nil => intro d h; exact h
    | cons c cs ih => intro d h; exact ih _ (Int.le_trans (dueF_le s bs day d c) h)
  exact key cs 100000 (Int.le_refl _)
theorem dueT_snoc (s : Stp) (bs : List Brk) (day : Int) (cs : List Brk) (b : Brk) : (cs ++ [b]).foldl (dueF s bs day) 100000 = dueF s bs day (cs.foldl (dueF s bs day) 100000) b := by simp

set_option maxHeartbeats 1000000 in
theorem refDue_any (a : Option Addr) (c : Nat) (L : List Stp) (b : Option Addr) (cb : Nat) (bs : List Brk) (day : Int) (w : World) (hS : StS w a L) (hL : L.length ≤ 64) (hB : BrS w b bs) (hbs : bs.length ≤ 1000000) (hdl : -9223372036854775808 ≤ day) :
    Calls Tryd.prog 17 #[.slice a L.length c, .slice b bs.length cb, .int .i64 day] w fun e w' => e = .returned (dayV (due L bs day)) ∧ Below w.heap.size w w' := by
  obtain ⟨n, hn⟩ : ∃ n, L.length = n := ⟨_, rfl⟩
  rw [hn] at hL ⊢
  rcases n with _ | i
  · obtain rfl : L = [] := List.eq_nil_of_length_eq_zero hn
    rw [due_nil]
    clear hn
    go_enter Tryd.func17, Tryd.ntmps17
    go_wp2_with fail
    go_ret2
    exact ⟨rfl, Below.refl _ _⟩
  · obtain ⟨p, hpi⟩ : ∃ p, L[i]? = some p := ⟨_, List.getElem?_eq_getElem (by omega)⟩
    obtain ⟨ba, o, rfl, hbl, x0, x1, x2, x3⟩ := hS i p hpi
    have hdue := due_at L i p bs day hpi hn
    rw [hdue]
    have HN := Lib.hid hn
    have HP := Lib.hid hpi
    have HB := Lib.hid hB
    clear hn hpi hdue hS hB
    have i0 : (0 : Int) ≤ (i : Int) := by omega
    have i1 : (i : Int) < (i : Int) + 1 := by omega
    have i2 : ((i + 1 : Nat) : Int) = (i : Int) + 1 := by push_cast; rfl
    have i3 : (((i : Int) + 1) == 0) = false := beq_eq_false_iff_ne.2 (by omega)
    have i7 : IntKind.i64.wrap (i : Int) = i := IntWalk.i64_in _ (by omega)
    by_cases hday : 100000 < day
    · rw [if_neg (by omega)]
      go_enter Tryd.func17, Tryd.ntmps17
      go_wp2_with fail
      go_ret2
      exact ⟨rfl, Below.refl _ _⟩
    · have HG := Lib.hid (fun (u : Int) W (h : BrS W b bs) => refGood_any p b cb bs day u W h hbs)
      simp only [stv] at HG
      generalize hR : (if day ≤ 100000 ∧ good p bs day day = true then some (dueOf p bs day) else none) = R
      have HR := Lib.hid hR
      clear hR
      go_enter Tryd.func17, Tryd.ntmps17
      go_wp2_with fail
      refine (HG.out day _ (HB.out.below ((Below.refl _ _).alloc (Nat.le_refl _) _))).mono ?_
      rintro e w1 ⟨rfl, hb1⟩
      have hblk : w1.heap[w.heap.size]? = some (.cells #[.int .i64 p.day, .int .i64 p.hash, .int .i64 p.wit, .string ⟨p.val.toArray⟩] 28) := by
        rw [hb1.block w.heap.size (by rw [size_alloc]; omega)]; exact heap_last _ _
      have HB1 := Lib.hid (((Below.refl w.heap.size w).alloc (Nat.le_refl _) (.cells #[.int .i64 p.day, .int .i64 p.hash, .int .i64 p.wit, .string ⟨p.val.toArray⟩] 28)).trans (hb1.mono (by rw [size_alloc]; omega)))
      have hlt1 : w.heap.size < w1.heap.size := by have := hb1.size; rw [size_alloc] at this; omega
      have HBK := Lib.hid hblk
      clear hb1 hblk x0 x1 x2 x3
      cases hgd : good p bs day day with
      | false =>
        have hno : R = none := by rw [← HR.out, if_neg (by rw [hgd]; simp)]
        subst hno
        go_wp2_with fail
        go_ret2
        exact ⟨rfl, HB1.out⟩
      | true =>
      have hyes : R = some (dueOf p bs day) := by rw [← HR.out, if_pos ⟨by omega, hgd⟩]
      clear HR
      obtain ⟨m, hm⟩ : ∃ m, bs.length = m := ⟨_, rfl⟩
      rw [hm] at hbs HG ⊢
      have HM := Lib.hid hm
      clear hm hgd
      generalize hD : dueOf p bs day = D at hyes
      subst hyes
      have HD := Lib.hid hD
      clear hD
      go_wp2_with fail
      go_loopw [10, 11] (fun d x wx => ∃ j : Nat, j ≤ m ∧ x = .int .i64 j ∧ d = .int .i64 ((bs.take j).foldl (dueF p bs day) 100000) ∧ Below w1.heap.size w1 wx) (fun _ x _ => m - (intOf x).toNat)
      case atStart => exact ⟨0, by omega, rfl, rfl, Below.refl _ _⟩
      case round =>
        obtain ⟨j, hj, rfl, rfl, hb⟩ := hrel
        have hsz := hb.size
        have HBX := Lib.hid hb
        have hD8 := dueT_le p bs day (bs.take j)
        by_cases hlt : j < m
        · obtain ⟨x, hxj⟩ : ∃ x, bs[j]? = some x := ⟨_, List.getElem?_eq_getElem (by rw [HM.out]; exact hlt)⟩
          have hBr := HB.out.below (HB1.out.trans (hb.mono HB1.out.size))
          obtain ⟨bb, bo, rfl, hbl2, x0, x1, x2, x3⟩ := hBr j x hxj
          have HTK := Lib.hid (by rw [take_more hxj, dueT_snoc, dueF_step _ _ _ _ _ hD8] : (bs.take (j + 1)).foldl (dueF p bs day) 100000 = if x.frm ≤ day ∨ (bs.take j).foldl (dueF p bs day) 100000 < x.frm then (bs.take j).foldl (dueF p bs day) 100000 else if good p bs day x.frm = true then (bs.take j).foldl (dueF p bs day) 100000 else x.frm - 1)
          have HBR := Lib.hid hBr
          generalize (bs.take j).foldl (dueF p bs day) 100000 = d at *
          have n0 : (0 : Int) ≤ (j : Int) := by omega
          have n1 : (j : Int) < (m : Int) := by omega
          have hd : decide ((j : Int) < (m : Int)) = true := by rw [decide_eq_true_iff]; omega
          have hd2 : decide (j < m) = true := by rw [decide_eq_true_iff]; omega
          have hbk := (hb.block w.heap.size hlt1).trans HBK.out
          have z0 : wr.cell? ⟨w.heap.size, 0, none⟩ = some (.int .i64 p.day) := by rw [Lib.cell_of_heap hbk]; rfl
          have z1 : wr.cell? ⟨w.heap.size, 1, none⟩ = some (.int .i64 p.hash) := by rw [Lib.cell_of_heap hbk]; rfl
          have z2 : wr.cell? ⟨w.heap.size, 2, none⟩ = some (.int .i64 p.wit) := by rw [Lib.cell_of_heap hbk]; rfl
          have z3 : wr.cell? ⟨w.heap.size, 3, none⟩ = some (.string ⟨p.val.toArray⟩) := by rw [Lib.cell_of_heap hbk]; rfl
          have hltr : w.heap.size < wr.heap.size := by omega
          clear hxj hBr hb hbk
          by_cases k1 : x.frm ≤ day
          · have KN := Lib.hid (if_pos (.inl k1) : (if x.frm ≤ day ∨ d < x.frm then d else if good p bs day x.frm = true then d else x.frm - 1) = d)
            go_wp2_with fail
            go_roundw
            case rel => exact ⟨j + 1, by omega, by push_cast; rfl, by rw [HTK.out, KN.out], HBX.out.alloc hsz _⟩
            case measure => simp [intOf]; omega
          by_cases k2 : d < x.frm
          · have KN := Lib.hid (if_pos (.inr k2) : (if x.frm ≤ day ∨ d < x.frm then d else if good p bs day x.frm = true then d else x.frm - 1) = d)
            go_wp2_with fail
            go_roundw
            case rel => exact ⟨j + 1, by omega, by push_cast; rfl, by rw [HTK.out, KN.out], HBX.out.alloc hsz _⟩
            case measure => simp [intOf]; omega
          have KI := Lib.hid (if_neg (by omega) : (if x.frm ≤ day ∨ d < x.frm then d else if good p bs day x.frm = true then d else x.frm - 1) = if good p bs day x.frm = true then d else x.frm - 1)
          have zz : ∀ o', (wr.alloc o').cell? ⟨w.heap.size, 0, none⟩ = some (.int .i64 p.day) ∧ (wr.alloc o').cell? ⟨w.heap.size, 1, none⟩ = some (.int .i64 p.hash) ∧ (wr.alloc o').cell? ⟨w.heap.size, 2, none⟩ = some (.int .i64 p.wit) ∧ (wr.alloc o').cell? ⟨w.heap.size, 3, none⟩ = some (.string ⟨p.val.toArray⟩) := fun o' => by
            have hbo := (Below.refl wr.heap.size wr).alloc (Nat.le_refl _) o'
            exact ⟨(hbo.cell (p := ⟨w.heap.size, 0, none⟩) hltr).trans z0, (hbo.cell (p := ⟨w.heap.size, 1, none⟩) hltr).trans z1, (hbo.cell (p := ⟨w.heap.size, 2, none⟩) hltr).trans z2, (hbo.cell (p := ⟨w.heap.size, 3, none⟩) hltr).trans z3⟩
          have zz0 := fun o' => (zz o').1
          have zz1 := fun o' => (zz o').2.1
          have zz2 := fun o' => (zz o').2.2.1
          have zz3 := fun o' => (zz o').2.2.2
          clear z0 z1 z2 z3 zz
          go_wp2_with fail
          refine (HG.out x.frm _ (HBR.out.below ((Below.refl _ _).alloc (Nat.le_refl _) _))).mono ?_
          rintro e w2 ⟨rfl, hb2⟩
          have HB2 := Lib.hid ((HBX.out.alloc hsz (.cells #[.int .i64 x.hash, .int .i64 x.wit, .int .i64 x.frm, .int .i64 x.known] 48)).trans (hb2.mono (by rw [size_alloc]; omega)))
          have q2 : w2.cell? ⟨wr.heap.size, 2, none⟩ = some (.int .i64 x.frm) := by
            have := (hb2.block wr.heap.size (by rw [size_alloc]; omega)).trans (heap_last _ _)
            rw [Lib.cell_of_heap this]; rfl
          clear hb2 zz0 zz1 zz2 zz3
          cases hgd : good p bs day x.frm with
          | true =>
            have KN := Lib.hid (KI.out.trans (if_pos hgd))
            clear hgd
            go_wp2_with fail
            go_roundw
            case rel => exact ⟨j + 1, by omega, by push_cast; rfl, by rw [HTK.out, KN.out], HB2.out⟩
            case measure => simp [intOf]; omega
          | false =>
            have KN := Lib.hid (KI.out.trans (if_neg (by rw [hgd]; simp)))
            clear hgd
            go_wp2_with fail
            go_roundw
            case rel => exact ⟨j + 1, by omega, by push_cast; rfl, by rw [HTK.out, KN.out], HB2.out⟩
            case measure => simp [intOf]; omega
        · obtain rfl : j = m := by omega
          have htl : bs.take j = bs := List.take_of_length_le (by rw [HM.out]; exact Nat.le_refl _)
          have hd : decide ((j : Int) < (j : Int)) = false := by simp
          have hd2 : decide (j < j) = false := by simp
          have HDD := Lib.hid (show (bs.take j).foldl (dueF p bs day) 100000 = D by rw [htl]; exact HD.out)
          rw [HDD.out]
          clear hD8
          go_wp2_with fail
          go_ret2
          exact ⟨rfl, HB1.out.trans (HBX.out.mono HB1.out.size)⟩

/-- The days on which a stamp turns. -/
def dueL (s : Stp) (bs : List Brk) (day : Int) (cs : List Brk) : List Int := (cs.filter fun b => decide (day < b.frm) && decide (b.frm ≤ 100000) && !good s bs day b.frm).map Brk.frm
theorem dueL_snoc (s : Stp) (bs : List Brk) (day : Int) (cs : List Brk) (b : Brk) : dueL s bs day (cs ++ [b]) = dueL s bs day cs ++ if day < b.frm ∧ b.frm ≤ 100000 ∧ good s bs day b.frm = false then [b.frm] else [] := by
  unfold dueL
  rw [List.filter_append, List.map_append]
  congr 1
  by_cases h : day < b.frm ∧ b.frm ≤ 100000 ∧ good s bs day b.frm = false
  · rw [if_pos h]; simp [h.1, h.2.1, h.2.2]
  · rw [if_neg h]
    have : (decide (day < b.frm) && decide (b.frm ≤ 100000) && !good s bs day b.frm) = false := by
      cases hh : (decide (day < b.frm) && decide (b.frm ≤ 100000) && !good s bs day b.frm) with
      | false => rfl
      | true => simp at hh; exact absurd ⟨hh.1.1, hh.1.2, hh.2⟩ h
    simp [this]
theorem dueL_len (s : Stp) (bs : List Brk) (day : Int) (cs : List Brk) : (dueL s bs day cs).length ≤ cs.length := by
  unfold dueL; rw [List.length_map]; exact List.length_filter_le _ _
theorem dueL_gt (s : Stp) (bs : List Brk) (day : Int) (cs : List Brk) : ∀ f ∈ dueL s bs day cs, day < f := by
  intro f hf
  unfold dueL at hf
  rw [List.mem_map] at hf
  obtain ⟨b, hb, rfl⟩ := hf
  have := (List.mem_filter.1 hb).2
  simp at this
  exact this.1.1
theorem least_gt (day : Int) : ∀ (l : List Int) (x : Int), day < x → (∀ f ∈ l, day < f) → day < least x l := by
  intro l
  induction l with
  | nil => intro x h _; exact h
  | cons y l ih =>
    intro x h h2
    have h3 := h2 y (by simp)
    exact ih (min x y) (by omega) (fun f hf => h2 f (by simp [hf]))
theorem due_least (s : Stp) (bs : List Brk) (day : Int) : ∀ (cs : List Brk) (d : Int), cs.foldl (dueF s bs day) d = least (d + 1) (dueL s bs day cs) - 1 := by
  intro cs
  induction cs with
  | nil => intro d; simp [dueL, least]
  | cons c cs ih =>
    intro d
    rw [List.foldl_cons, ih]
    by_cases h : day < c.frm ∧ c.frm ≤ 100000 ∧ good s bs day c.frm = false
    · have e1 : dueF s bs day d c = min d (c.frm - 1) := if_pos h
      have e2 : dueL s bs day (c :: cs) = c.frm :: dueL s bs day cs := by simp [dueL, h.1, h.2.1, h.2.2]
      rw [e1, e2]
      have : min d (c.frm - 1) + 1 = min (d + 1) c.frm := by omega
      rw [this]; rfl
    · have e1 : dueF s bs day d c = d := if_neg h
      have e2 : dueL s bs day (c :: cs) = dueL s bs day cs := by
        have : (decide (day < c.frm) && decide (c.frm ≤ 100000) && !good s bs day c.frm) = false := by
          cases hh : (decide (day < c.frm) && decide (c.frm ≤ 100000) && !good s bs day c.frm) with
          | false => rfl
          | true => simp at hh; exact absurd ⟨hh.1.1, hh.1.2, hh.2⟩ h
        simp [dueL, this]
      rw [e1, e2]
theorem dueOf_least (s : Stp) (bs : List Brk) (day : Int) : dueOf s bs day = least 100001 (dueL s bs day bs) - 1 := due_least s bs day bs 100000
theorem run_max2 {P : Program} (ats : Array TypeId) (ty : TypeId) (x y : Int) (wx : World) : (Builtin.max_ ats ty #[.int .i64 x, .int .i64 y]).run P wx = .ok (.int .i64 (max x y)) wx := by
  have h : (if x < y then y else x) = max x y := by rw [Int.max_def]; split <;> split <;> omega
  rw [← h]
  simp [Builtin.max_, Builtin.max2, List.foldlM, Sem.run_pure]
/-- One integer appended. -/
theorem append_int {ops : Array Oper} {rest : List Oper} {o : Oper} {a : Act} {Q : Exit → Act → World → Prop} {w0 : World} (hgd : o.guard = none) (s x : Operand)
    (ho : o.op = .call { callee := .builtin .append, args := #[s, x], argTypes := #[34, 34] })
    {base : Nat} {v : Value} {l : List Int} (hs : a.eval s = v) (hown : IRow w0 base v l) (hbase : base ≤ w0.heap.size) (hlen : l.length ≤ 1000001)
    (hx : a.eval x = .slice (some ⟨w0.heap.size, 0, none⟩) 1 1) {z : Int} {M : List Int} (hM : M = l ++ [z])
    (h : ∀ g cap w', IRow w' base (.slice (some ⟨g, 0, none⟩) (l.length + 1) cap) M → Below base w0 w' → wpList Tryd.prog ops Q rest (a.put o.dst (.slice (some ⟨g, 0, none⟩) (l.length + 1) cap)) w') :
    wpList Tryd.prog ops Q (o :: rest) a (w0.alloc (.cells #[.int .i64 z] 3)) := by
  obtain ⟨i0, hi, hz0, hz1, hz2⟩ := info_parts Tryd.infoInt
  refine wpList_append_lies _ hgd s x 34 ho base 3 i0 _ 1 8 Tryd.underlying34 hi hz0 hz1 hz2 rfl (by decide) v l.length (ics l) hs (World.ownsRow.alloc hown _) ⟨w0.heap.size, 0, none⟩ 1 1 [.int .i64 z] hx rfl (cell_one_new _ _ _) (by simp [Value.oneCell']) (by decide) (by unfold maxLen; omega) (by omega) (by simp; omega) _ rfl ?_
  intro g cap w1 hown' hgrow _ _
  refine h g cap w1 ?_ (((Below.refl _ _).alloc hbase _).grown hgrow (by simp; omega) (fun k hk => (World.ownsRow.lt hown k hk).1))
  subst hM
  show w1.ownsRow base _ 1 _ (l ++ [z]).length (ics (l ++ [z]))
  rw [show ics (l ++ [z]) = ics l ++ [.int .i64 z] by simp [ics], show (l ++ [z]).length = l.length + 1 by simp]
  exact hown'
end Go.Proofs.YtkihcigojhcmgaaDoor

namespace Go.Proofs.YtkihcigojhcmgaaDoor
open Go.RowKit
set_option maxRecDepth 100000

theorem IRow.mono {W : World} {b base : Nat} {v : Value} {l : List Int} (h : IRow W base v l) (hb : b ≤ base) : IRow W b v l := by
  refine ⟨h.1, ?_⟩
  rcases h.2 with h2 | ⟨g, cap, cur, h1, h2, h3⟩
  · exact .inl h2
  · exact .inr ⟨g, cap, cur, h1, Nat.le_trans hb h2, h3⟩
theorem IRow.block {W : World} {g : Nat} {z : Int} {base : Nat} (h : W.heap[g]? = some (.cells #[.int .i64 z] 3 (0, 0))) (hb : base ≤ g) : IRow W base (.slice (some ⟨g, 0, none⟩) 1 1) [z] :=
  ⟨rfl, .inr ⟨g, 1, _, rfl, hb, h, Nat.le_refl _, by decide, rfl, rfl⟩⟩

set_option maxHeartbeats 1000000 in
theorem due_any (a : Option Addr) (c : Nat) (L : List Stp) (b : Option Addr) (cb : Nat) (bs : List Brk) (day : Int) (w : World) (hS : StS w a L) (hL : L.length ≤ 64) (hB : BrS w b bs) (hbs : bs.length ≤ 1000000) (hdl : -9223372036854775808 ≤ day) :
    Calls Tryd.prog 16 #[.slice a L.length c, .slice b bs.length cb, .int .i64 day] w fun e w' => e = .returned (dayV (due L bs day)) ∧ Below w.heap.size w w' := by
  have HNT := Lib.hid (newTrust_any b cb bs day w hB hbs)
  obtain ⟨n, hn⟩ : ∃ n, L.length = n := ⟨_, rfl⟩
  rw [hn] at hL ⊢
  rcases n with _ | i
  · obtain rfl : L = [] := List.eq_nil_of_length_eq_zero hn
    rw [due_nil]
    clear hn
    go_enter Tryd.func16, Tryd.ntmps16
    go_wp2_with fail
    refine HNT.out.mono ?_
    rintro e w1 ⟨rfl, ht1, hb1⟩
    go_wp2_with fail
    go_ret2
    exact ⟨rfl, hb1⟩
  · obtain ⟨p, hpi⟩ : ∃ p, L[i]? = some p := ⟨_, List.getElem?_eq_getElem (by omega)⟩
    obtain ⟨ba, o, rfl, hbl, x0, x1, x2, x3⟩ := hS i p hpi
    have hdue := due_at L i p bs day hpi hn
    rw [hdue]
    have HN := Lib.hid hn
    have HP := Lib.hid hpi
    have HB := Lib.hid hB
    clear hn hpi hdue hS hB
    have i0 : (0 : Int) ≤ (i : Int) := by omega
    have i1 : (i : Int) < (i : Int) + 1 := by omega
    have i2 : ((i + 1 : Nat) : Int) = (i : Int) + 1 := by push_cast; rfl
    have i3 : (((i : Int) + 1) == 0) = false := beq_eq_false_iff_ne.2 (by omega)
    have i7 : IntKind.i64.wrap (i : Int) = i := IntWalk.i64_in _ (by omega)
    have hmax : ∀ wx, (Builtin.max_ #[3, 3] 3 #[.int .i64 (i : Int), .int .i64 0]).run Tryd.prog wx = .ok (.int .i64 (i : Int)) wx := fun wx => by
      rw [run_max2, Int.max_eq_left i0]
    by_cases hday : 100000 < day
    · rw [if_neg (by omega)]
      go_enter Tryd.func16, Tryd.ntmps16
      go_wp2_with fail
      refine HNT.out.mono ?_
      rintro e w1 ⟨rfl, ht1, hb1⟩
      go_wp2_with fail
      go_ret2
      exact ⟨rfl, hb1⟩
    · have HG := Lib.hid (fun (u : Int) W (h : TrO W w.heap.size (froms bs day)) => isGood_any p w.heap.size bs day u W h hbs)
      have hd1 : decide (100000 < day) = false := by rw [decide_eq_false_iff_not]; omega
      simp only [stv] at HG
      generalize hR : (if day ≤ 100000 ∧ good p bs day day = true then some (dueOf p bs day) else none) = R
      have HR := Lib.hid hR
      clear hR
      go_enter Tryd.func16, Tryd.ntmps16
      go_wp2_with fail
      refine HNT.out.mono ?_
      rintro e w1 ⟨rfl, ht1, hb1⟩
      have HT1 := Lib.hid ht1
      have HB1 := Lib.hid hb1
      have x0 := (hb1.cell (p := ⟨ba, _, none⟩) hbl).trans x0
      have x1 := (hb1.cell (p := ⟨ba, _, none⟩) hbl).trans x1
      have x2 := (hb1.cell (p := ⟨ba, _, none⟩) hbl).trans x2
      have x3 := (hb1.cell (p := ⟨ba, _, none⟩) hbl).trans x3
      have hbl : ba < w1.heap.size := Nat.lt_of_lt_of_le hbl hb1.size
      clear ht1 hb1
      go_wp2_with fail
      refine (HG.out day _ HT1.out).mono ?_
      rintro e w2 ⟨rfl, hb2⟩
      have HT2 := Lib.hid (HT1.out.below hb2)
      have HB2 := Lib.hid (HB1.out.trans (hb2.mono HB1.out.size))
      have x0 := (hb2.cell (p := ⟨ba, _, none⟩) hbl).trans x0
      have x1 := (hb2.cell (p := ⟨ba, _, none⟩) hbl).trans x1
      have x2 := (hb2.cell (p := ⟨ba, _, none⟩) hbl).trans x2
      have x3 := (hb2.cell (p := ⟨ba, _, none⟩) hbl).trans x3
      have hbl : ba < w2.heap.size := Nat.lt_of_lt_of_le hbl hb2.size
      clear hb2
      cases hgd : good p bs day day with
      | false =>
        have hno : R = none := by rw [← HR.out, if_neg (by rw [hgd]; simp)]
        subst hno
        go_wp2_with fail
        go_ret2
        exact ⟨rfl, HB2.out⟩
      | true =>
      have hyes : R = some (dueOf p bs day) := by rw [← HR.out, if_pos ⟨by omega, hgd⟩]
      clear HR
      obtain ⟨m, hm⟩ : ∃ m, bs.length = m := ⟨_, rfl⟩
      rw [hm] at hbs ⊢
      have HM := Lib.hid hm
      clear hm hgd
      have hD := dueOf_least p bs day
      generalize dueOf p bs day = D at hyes hD
      subst hyes
      have HD := Lib.hid hD
      clear hD
      go_wp2_with fail
      obtain ⟨w3, hw3⟩ : ∃ w3, w2.alloc (.cells #[.int .i64 p.day, .int .i64 p.hash, .int .i64 p.wit, .string ⟨p.val.toArray⟩] 28) = w3 := ⟨_, rfl⟩
      have HBK : Hid (w3.heap[w2.heap.size]? = some (.cells #[.int .i64 p.day, .int .i64 p.hash, .int .i64 p.wit, .string ⟨p.val.toArray⟩] 28)) := Lib.hid (by rw [← hw3]; exact heap_last _ _)
      have hs3 : w3.heap.size = w2.heap.size + 1 := by rw [← hw3, size_alloc]
      have HT3 := Lib.hid (show TrO w3 w.heap.size (froms bs day) by rw [← hw3]; exact HT2.out.below ((Below.refl _ _).alloc (Nat.le_refl _) _))
      have HB3 := Lib.hid (show Below w.heap.size w w3 by rw [← hw3]; exact HB2.out.alloc HB2.out.size _)
      rw [hw3, ← hs3]
      obtain ⟨bk, hbk⟩ : ∃ bk, w2.heap.size = bk := ⟨_, rfl⟩
      rw [hbk] at HBK hs3 ⊢
      have hbk3 : bk < w3.heap.size := by omega
      clear hw3 hbk HB2 HT2 HT1 HB1 HNT x0 x1 x2 x3 hbl hs3 hmax
      go_loopw [10, 45] (fun v x wx => ∃ j : Nat, j ≤ m ∧ x = .int .i64 j ∧ IRow wx w3.heap.size v (100001 :: dueL p bs day (bs.take j)) ∧ Below w3.heap.size w3 wx) (fun _ x _ => m - (intOf x).toNat)
      case atStart => exact ⟨0, by omega, rfl, by rw [List.take_zero]; exact IRow.block (heap_last _ _) (Nat.le_refl _), (Below.refl _ _).alloc (Nat.le_refl _) _⟩
      case round =>
        obtain ⟨j, hj, rfl, hrow, hb⟩ := hrel
        have hsz := hb.size
        have HBX := Lib.hid hb
        have hlen : (100001 :: dueL p bs day (bs.take j)).length ≤ 1000001 := by
          have := dueL_len p bs day (bs.take j)
          rw [List.length_take] at this
          simp only [List.length_cons]; omega
        have HRW := Lib.hid hrow
        have HLE := Lib.hid hlen
        clear hrow hlen
        by_cases hlt : j < m
        · obtain ⟨x, hxj⟩ : ∃ x, bs[j]? = some x := ⟨_, List.getElem?_eq_getElem (by rw [HM.out]; exact hlt)⟩
          obtain ⟨bb, bo, rfl, hbl2, x0, x1, x2, x3⟩ := (HB.out.below (HB3.out.trans (hb.mono HB3.out.size))) j x hxj
          have HTK := Lib.hid (by rw [take_more hxj, dueL_snoc, ← List.cons_append] : 100001 :: dueL p bs day (bs.take (j + 1)) = (100001 :: dueL p bs day (bs.take j)) ++ if day < x.frm ∧ x.frm ≤ 100000 ∧ good p bs day x.frm = false then [x.frm] else [])
          generalize (100001 :: dueL p bs day (bs.take j)) = l at *
          have n0 : (0 : Int) ≤ (j : Int) := by omega
          have n1 : (j : Int) < (m : Int) := by omega
          have hd : decide ((j : Int) < (m : Int)) = true := by rw [decide_eq_true_iff]; omega
          have hd2 : decide (j < m) = true := by rw [decide_eq_true_iff]; omega
          have hbkr : bk < wr.heap.size := by omega
          have hblk := (hb.block bk hbk3).trans HBK.out
          have zz : ∀ o', (wr.alloc o').heap[bk]? = some (.cells #[.int .i64 p.day, .int .i64 p.hash, .int .i64 p.wit, .string ⟨p.val.toArray⟩] 28) := fun o' => (((Below.refl wr.heap.size wr).alloc (Nat.le_refl _) o').block bk hbkr).trans hblk
          have zz0 : ∀ o', (wr.alloc o').cell? ⟨bk, 0, none⟩ = some (.int .i64 p.day) := fun o' => by rw [Lib.cell_of_heap (zz o')]; rfl
          have zz1 : ∀ o', (wr.alloc o').cell? ⟨bk, 1, none⟩ = some (.int .i64 p.hash) := fun o' => by rw [Lib.cell_of_heap (zz o')]; rfl
          have zz2 : ∀ o', (wr.alloc o').cell? ⟨bk, 2, none⟩ = some (.int .i64 p.wit) := fun o' => by rw [Lib.cell_of_heap (zz o')]; rfl
          have zz3 : ∀ o', (wr.alloc o').cell? ⟨bk, 3, none⟩ = some (.string ⟨p.val.toArray⟩) := fun o' => by rw [Lib.cell_of_heap (zz o')]; rfl
          have HTR := Lib.hid (HT3.out.below hb)
          have HX := Lib.hid (HBX.out.alloc hsz (.cells #[.int .i64 x.hash, .int .i64 x.wit, .int .i64 x.frm, .int .i64 x.known] 48))
          have HRX := Lib.hid (HRW.out.below ((Below.refl wr.heap.size wr).alloc (Nat.le_refl _) (.cells #[.int .i64 x.hash, .int .i64 x.wit, .int .i64 x.frm, .int .i64 x.known] 48)))
          clear hxj hb hblk zz
          by_cases k1 : day < x.frm ∧ x.frm ≤ 100000
          · obtain ⟨k1, k2⟩ := k1
            go_wp2_with fail
            refine (HG.out x.frm _ (HTR.out.below ((Below.refl _ _).alloc (Nat.le_refl _) _))).mono ?_
            rintro e w4 ⟨rfl, hb4⟩
            have HX4 := Lib.hid (HX.out.trans (hb4.mono (by rw [size_alloc]; omega)))
            have HR4 := Lib.hid (HRX.out.below hb4)
            have q2 : w4.cell? ⟨wr.heap.size, 2, none⟩ = some (.int .i64 x.frm) := by
              have := (hb4.block wr.heap.size (by rw [size_alloc]; omega)).trans (heap_last _ _)
              rw [Lib.cell_of_heap this]; rfl
            have hs4 := HX4.out.size
            clear hb4 zz0 zz1 zz2 zz3
            cases hgd : good p bs day x.frm with
            | true =>
              have KN := Lib.hid (if_neg (by rw [hgd]; simp) : (if day < x.frm ∧ x.frm ≤ 100000 ∧ good p bs day x.frm = false then [x.frm] else []) = [])
              clear hgd
              go_wp2_with fail
              go_roundw
              case rel => exact ⟨j + 1, by omega, by push_cast; rfl, by rw [HTK.out, KN.out, List.append_nil]; exact HR4.out, HX4.out⟩
              case measure => simp [intOf]; omega
            | false =>
              have KN := Lib.hid (HTK.out.trans (congrArg (l ++ ·) (if_pos ⟨k1, k2, hgd⟩)))
              clear hgd
              go_wp2_with (at_builtin; refine append_int rfl _ _ rfl rfl HR4.out (by omega) HLE.out rfl KN.out ?_; intro g' c' w5 hrow5 hb5)
              go_roundw
              case rel => exact ⟨j + 1, by omega, by push_cast; rfl, hrow5, HX4.out.trans hb5⟩
              case measure => simp [intOf]; omega
          · have KN := Lib.hid (if_neg (fun h => k1 ⟨h.1, h.2.1⟩) : (if day < x.frm ∧ x.frm ≤ 100000 ∧ good p bs day x.frm = false then [x.frm] else []) = [])
            by_cases k2 : day < x.frm
            · have k3 : ¬ (x.frm ≤ 100000) := fun h => k1 ⟨k2, h⟩
              clear k1
              go_wp2_with fail
              go_roundw
              case rel => exact ⟨j + 1, by omega, by push_cast; rfl, by rw [HTK.out, KN.out, List.append_nil]; exact HRX.out, HX.out⟩
              case measure => simp [intOf]; omega
            · clear k1
              go_wp2_with fail
              go_roundw
              case rel => exact ⟨j + 1, by omega, by push_cast; rfl, by rw [HTK.out, KN.out, List.append_nil]; exact HRX.out, HX.out⟩
              case measure => simp [intOf]; omega
        · obtain rfl : j = m := by omega
          have htl : bs.take j = bs := List.take_of_length_le (by rw [HM.out]; exact Nat.le_refl _)
          have hd : decide ((j : Int) < (j : Int)) = false := by simp
          have hd2 : decide (j < j) = false := by simp
          rw [htl] at HRW HLE
          have hbd := least_gt day (dueL p bs day bs) 100001 (by omega) (dueL_gt p bs day bs)
          have hle : least 100001 (dueL p bs day bs) ≤ 100001 := by
            have := due_least p bs day bs 100000
            rw [show (100000 : Int) + 1 = 100001 from rfl] at this
            have h2 := dueT_le p bs day bs
            omega
          obtain ⟨a5, c5, h5, hI5⟩ := HRW.out.isSlice
          subst h5
          have hll := HLE.out
          simp only [List.length_cons] at hll ⊢
          have HMN := Lib.hid (min_any a5 c5 100001 (dueL p bs day bs) wr hI5 (by omega))
          rw [← HD.out.trans rfl |> fun h => (by omega : D + 1 = least 100001 (dueL p bs day bs))] at HMN hbd hle
          clear hI5 hll HRW HLE
          generalize (dueL p bs day bs).length = ln at *
          go_wp2_with fail
          refine HMN.out.mono ?_
          rintro e w6 ⟨rfl, rfl⟩
          go_wp2_with fail
          go_ret2
          exact ⟨rfl, HB3.out.trans (HBX.out.mono HB3.out.size)⟩
end Go.Proofs.YtkihcigojhcmgaaDoor
