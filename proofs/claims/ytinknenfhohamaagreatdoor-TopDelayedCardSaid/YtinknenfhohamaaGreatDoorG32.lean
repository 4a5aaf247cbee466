/- slices.AppendSeq and slices.Collect over the computer's events. -/
import Derived.Test.YtinknenfhohamaaGreatDoorG30
import Derived.Shelf.Abstract
import Derived.OwnWalkIn
import Derived.TacticsInMore
import Derived.LoopNIn
import Derived.LoopIn
import Derived.RangeFuncRecord
namespace Go.Proofs.YtinknenfhohamaaGreatDoor
open Go.RowKit Go.Shelf
set_option maxRecDepth 100000
attribute [local go_sem] Oper.semAt_some

/-- Several events appended, inside a round. -/
theorem append_eventsIn {F : Fence} {n : Nat} {ops : Array Oper} {rest : List Oper} {o : Oper} {a : Act} {Q : Exit → Act → World → Prop} {w0 : World} (hgd : o.guard = none) (s x : Operand)
    (ho : o.op = .call { callee := .builtin .append, args := #[s, x], argTypes := #[24, 24] })
    {base : Nat} {v : Value} {L : List Ev} (hs : a.eval s = v) (hown : ERow w0 base v L) (hbase : base ≤ w0.heap.size) (hlen : L.length ≤ 1000)
    {xb xo m xc : Nat} (hx : a.eval x = .slice (some ⟨xb, xo, none⟩) m xc) {X : List Ev} (hX : EvS w0 (some ⟨xb, xo, none⟩) X) (hXl : X.length = m) (hm : 0 < m) (hm2 : m ≤ 1000) {M : List Ev} (hM : M = L ++ X)
    (h : ∀ g cap w', ERow w' base (.slice (some ⟨g, 0, none⟩) M.length cap) M → Below base w0 w' → w0.grownBy w' v.ownBlock →
      wpListIn F n Tryz.prog ops Q rest (a.put o.dst (.slice (some ⟨g, 0, none⟩) M.length cap)) w') :
    wpListIn F n Tryz.prog ops Q (o :: rest) a w0 := by
  obtain ⟨i0, hi, hz0, hz1, hz2⟩ := info_parts Tryz.infoEvent
  subst hXl
  refine wpListIn_append_own _ hgd s x 24 ho base 28 i0 _ 4 32 Tryz.underlying24 hi hz0 hz1 hz2 rfl (by decide) v L.length (evl L) hs hown ⟨xb, xo, none⟩ X.length xc (evl X) hx (evl_length X) (evs_news hX) (evl_one' X) (by unfold maxLen; omega) (by omega) hbase ?_
  intro v' w1 hown' hgrow hnil
  have hl : M.length = L.length + X.length := by rw [hM, List.length_append]
  have hr : ERow w1 base v' M := by
    show w1.ownsRow base _ 4 _ M.length (evl M)
    rw [hl, hM, evl_append]; exact hown'
  obtain ⟨g, cap, rfl, -, -⟩ := hr.form (by omega)
  exact h g cap w1 hr ((Below.refl _ _).grown hgrow hbase (fun k hk => (hown.lt k hk).1)) hgrow
/-- What holds between two rounds of AppendSeq. -/
def SeqI (w0 : World) (b Bs base : Nat) (pre : List Ev) (W : World) : Prop := ∃ v, W.heap[Bs]? = some (.cells #[v] 24 (0, 0)) ∧ ERow W base v pre ∧ Below b w0 W ∧ base ≤ W.heap.size ∧ b ≤ W.heap.size
theorem erow_ne {W : World} {base k : Nat} {v : Value} {L : List Ev} {o : Obj} (h : ERow W base v L) (hk : W.heap[k]? = some o) (ho : ∀ cur, o ≠ .cells cur 28 (0, 0)) : v.ownBlock ≠ some k := by
  rcases h.2 with ⟨rfl, _⟩ | ⟨g, cap, cur, rfl, _, hg, _⟩
  · simp [Value.ownBlock]
  · intro h
    simp only [Value.ownBlock, Option.some.injEq] at h
    subst h
    rw [hg] at hk
    cases hk
    exact ho _ rfl
theorem ERow.grown {W W' : World} {base : Nat} {v : Value} {L : List Ev} {row : Option Nat} (h : ERow W base v L) (hg : W.grownBy W' row) (hr : ∀ k, row = some k → ∃ o : Obj, W.heap[k]? = some o ∧ ∀ cur, o ≠ .cells cur 28 (0, 0)) : ERow W' base v L := by
  refine World.ownsRow.kept h hg ?_
  cases row with
  | none =>
    rcases h.2 with ⟨rfl, _⟩ | ⟨g, cap, cur, rfl, _⟩
    · exact .inl rfl
    · exact .inr (by simp [Value.ownBlock])
  | some k =>
    obtain ⟨o, h1, h2⟩ := hr k rfl
    exact .inr (erow_ne h h1 h2)
theorem SeqI.own {w0 A B : World} {b Bs base : Nat} {pre : List Ev} (h : SeqI w0 b Bs base pre A) (ho : Own b A B) : SeqI w0 b Bs base pre B := by
  obtain ⟨v, h1, h2, h3, h4, h5⟩ := h
  refine ⟨v, ho.other h1 (by decide), h2.grown ho.2 (fun k e => ?_), h3.trans ho.below, Nat.le_trans h4 ho.2.size, Nat.le_trans h5 ho.2.size⟩
  cases e
  obtain ⟨cs, hcs⟩ := ho.1
  exact ⟨_, hcs, fun cur e => by cases e⟩
theorem SeqI.grown {w0 A B : World} {b Bs base : Nat} {pre : List Ev} {row : Option Nat} (h : SeqI w0 b Bs base pre A) (hg : A.grownBy B row) (hr : ∀ r, row = some r → b ≤ r ∧ ∃ o : Obj, A.heap[r]? = some o ∧ o.isCells = false) : SeqI w0 b Bs base pre B := by
  obtain ⟨v, h1, h2, h3, h4, h5⟩ := h
  refine ⟨v, ?_, h2.grown hg (fun k e => ?_), h3.grown hg h5 (fun k e => (hr k e).1), Nat.le_trans h4 hg.size, Nat.le_trans h5 hg.size⟩
  · rw [hg.block Bs (Array.getElem?_eq_some_iff.1 h1).1, h1]
    intro e
    obtain ⟨-, o, ho, hc⟩ := hr Bs e.symm
    rw [h1] at ho
    cases ho
    cases hc
  · obtain ⟨-, o, ho, hc⟩ := hr k e
    exact ⟨o, ho, fun cur e2 => by subst e2; cases hc⟩
theorem Own.cells (b : Nat) : CellsAlone (Own b) := by
  intro A B k o h hk hc
  rw [h.2.block k (Array.getElem?_eq_some_iff.1 hk).1, hk]
  intro e
  cases e
  obtain ⟨cs, hcs⟩ := h.1
  rw [hk] at hcs
  cases hcs
  cases hc
theorem seq_box {w0 V w5 : World} {b Bs : Nat} {pre : List Ev} {v : Value} {cs : Array Value} (hI : V.heap[Bs]? = some (.cells #[v] 24 (0, 0)) ∧ ERow V Bs v pre ∧ Below b w0 V ∧ Bs ≤ V.heap.size ∧ b ≤ V.heap.size)
    (hg : (V.alloc (.cells cs 28)).grownBy w5 v.ownBlock) : w5.cell? ⟨Bs, 0, none⟩ = some v ∧ w5.frozen? ⟨Bs, 0, none⟩ = false := by
  have hlt := (Array.getElem?_eq_some_iff.1 hI.1).1
  have h5 : w5.heap[Bs]? = some (.cells #[v] 24 (0, 0)) := by
    rw [hg.block Bs (Nat.lt_trans hlt (by rw [size_alloc]; omega)) (fun e => erow_ne hI.2.1 hI.1 (fun cur e => by cases e) e.symm), Below.heap_alloc _ _ _ hlt, hI.1]
  exact ⟨cell_of_one h5, free_of_one h5⟩
/-- What a round of AppendSeq leaves. -/
theorem seq_end {w0 V w5 : World} {b Bs B1 : Nat} {pre M : List Ev} {v v' : Value} {cs : Array Value} (hI : V.heap[Bs]? = some (.cells #[v] 24 (0, 0)) ∧ ERow V Bs v pre ∧ Below b w0 V ∧ Bs ≤ V.heap.size ∧ b ≤ V.heap.size) (hbB : b ≤ Bs)
    (hg : (V.alloc (.cells cs 28)).grownBy w5 v.ownBlock) (hrow : ERow w5 Bs v' M) :
    KeepsFrom B1 V (w5.setCell ⟨Bs, 0, none⟩ v') ∧ KpT b V (w5.setCell ⟨Bs, 0, none⟩ v') ∧ SeqI w0 b Bs Bs M (w5.setCell ⟨Bs, 0, none⟩ v') := by
  obtain ⟨h1, h2, h3, h4, h5⟩ := hI
  have hz : V.heap.size < (V.alloc (.cells cs 28)).heap.size := by rw [size_alloc]; omega
  have key : ∀ (k : Nat) (o : Obj), V.heap[k]? = some o → (∀ cur, o ≠ .cells cur 28 (0, 0)) → w5.heap[k]? = some o := by
    intro k o hk ho
    have hlt := (Array.getElem?_eq_some_iff.1 hk).1
    rw [hg.block k (Nat.lt_trans hlt hz) (fun e => erow_ne h2 hk ho e.symm), Below.heap_alloc _ _ _ hlt, hk]
  have hbox5 := key Bs _ h1 (fun cur e => by cases e)
  have hb5 : Below Bs V w5 := ((Below.refl Bs V).alloc h4 _).grown hg (by rw [size_alloc]; omega) (fun k hk => (World.ownsRow.lt h2 k hk).1)
  have hb6 : Below Bs V (w5.setCell ⟨Bs, 0, none⟩ v') := hb5.setCell (Nat.le_refl _) _
  have hs6 : V.heap.size ≤ (w5.setCell ⟨Bs, 0, none⟩ v').heap.size := hb6.size
  refine ⟨⟨hs6, fun k o _ hk hc => ?_⟩, ⟨hb6.mono hbB, fun k cs' t hk ht1 ht2 => ?_⟩, v', heap_setCell_at _ Bs 0 _ _ _ v' hbox5, ?_, h3.trans (hb6.mono hbB), by omega, by omega⟩
  · rw [Below.heap_setCell _ _ _ k (by
      rintro rfl
      rw [h1] at hk; cases hk; cases hc)]
    exact key k o hk (fun cur e => by subst e; cases hc)
  · rw [Below.heap_setCell _ _ _ k (by
      rintro rfl
      rw [h1] at hk; cases hk; exact ht2 rfl)]
    exact key k _ hk (fun cur e => by cases e; exact ht1 rfl)
  · refine hrow.grown (row := some Bs) ⟨rfl, rfl, rfl, by simp, fun k _ hk => Below.heap_setCell _ _ _ k (fun e => hk (by rw [e]))⟩ (fun k e => ?_)
    cases e
    exact ⟨_, hbox5, fun cur e => by cases e⟩
set_option maxHeartbeats 2000000 in
theorem appendSeq_any (b bx bm : Nat) (E : List Ev) (hE : E.length < 40) (w : World) (Pre : World → Prop) (hb : b < w.heap.size) (hpre : ∀ W, Below w.heap.size w W → Pre W)
    (hit : Iter Fence.wide 4 Tryz.prog 44 #[.pointer (some ⟨bx, 0, none⟩), .pointer (some ⟨bm, 0, none⟩)] (fun x : Ev => #[evV x]) (Own b) (KpT b) (fun xs => xs = E) (fun _ => True) 40 Pre) :
    Calls Tryz.prog 43 #[.slice none 0 0, .func (.func 44) #[] #[.pointer (some ⟨bx, 0, none⟩), .pointer (some ⟨bm, 0, none⟩)]] w fun e w' => ∃ v, e = .returned v ∧ ERow w' w.heap.size v E ∧ Below b w w' := by
  have HPRE := Lib.hid hpre
  have HIT := Lib.hid hit
  clear hpre hit
  refine (callsIn_wide (n := 5)).1 (callsIn_of_wp_marks Tryz.func43 rfl trivial ?_ rfl)
  simp only [Tryz.ntmps43, List.size_toArray, List.length_cons, List.length_nil, Nat.reduceAdd, Nat.reduceSub, Array.replicate_succ, Array.replicate_zero, List.push_toArray, List.append_toArray, List.nil_append, List.cons_append]
  refine wpIn_wide.2 ?_
  go_wp2_with fail
  obtain ⟨w1, hw1⟩ : ∃ w1, w.alloc (.cells #[.slice none 0 0] 24) = w1 := ⟨_, rfl⟩
  obtain ⟨Bs, hBs⟩ : ∃ Bs, w.heap.size = Bs := ⟨_, rfl⟩
  have HB1 := Lib.hid (show Below w.heap.size w w1 by rw [← hw1]; exact (Below.refl _ _).alloc (Nat.le_refl _) _)
  have hbox : w1.heap[Bs]? = some (.cells #[.slice none 0 0] 24 (0, 0)) := by rw [← hw1]; exact heap_last' _ _ hBs
  have HS1 : Hid (w1.heap.size = w.heap.size + 1) := Lib.hid (by rw [← hw1, size_alloc])
  have HBS := Lib.hid hBs
  have HbB : Hid (b ≤ Bs) := Lib.hid (by omega)
  have HBOX := Lib.hid hbox
  rw [hw1, hBs]
  clear hw1 hbox hBs
  refine (wpIn_wide (n := 5)).1 ?_
  refine wpIn_range (F := Fence.wide) (n := 5) rfl (by omega) (gf := 44) (lb := #[.pointer (some ⟨bx, 0, none⟩), .pointer (some ⟨bm, 0, none⟩)]) rfl trivial (enters_of Tryz.func44 (by kernel_rfl) rfl)
    HIT.out (Own.cells b) ?pre ?kt ?kb (fun _ => rfl)
    (fun pre W => SeqI w b Bs Bs pre W) (fun cc pre W => False) ?own ?ownx ?wr ?wrx ?start ?round ?done ?stop
  case pre => exact fun W hW => HPRE.out W (HB1.out.trans (hW.mono HB1.out.size))
  case kt => exact fun h k => h.trans k
  case kb =>
    intro W l o1 o2 hl ho hc1
    have h1 := HS1.out
    refine ⟨⟨rfl, rfl, rfl, by simp, fun k hk => World.putObj_heap_other (by omega)⟩, fun k cs t hk _ _ => ?_⟩
    rw [World.putObj_heap_other (by intro e; subst e; rw [hk] at ho; cases ho; cases hc1)]
    exact hk
  case own =>
    intro pre X Y row hI hg hr
    have h1 := HS1.out
    exact hI.grown hg (fun r e => ⟨by have := (hr r e).1; omega, (hr r e).2⟩)
  case ownx => intro cc pre X Y row hI; exact hI.elim
  case wr => exact fun pre X Y hI ho => hI.own ho
  case wrx => exact fun cc pre X Y hI _ => hI
  case start =>
    have h1 := HS1.out
    have h2 := HBS.out
    exact ⟨_, HBOX.out, ERow.nil _ _, HB1.out.mono (by omega), by omega, by omega⟩
  case round =>
    rintro l pre x W hI hlen
    simp only [evV]
    have HI := Lib.hid hI
    clear hI
    have HAL := Lib.hid ((Below.refl W.heap.size W).alloc (Nat.le_refl _) (.cells #[.int .i64 x.tm, .int .i64 x.kd, .int .i64 x.a, .int .i64 x.b] 28))
    have hbW := HI.out.choose_spec.2.2.2.2
    gi_wp2
    refine ⟨⟨HAL.out.size, fun k o1 _ h0 _ => (HAL.out.block k (Array.getElem?_eq_some_iff.1 h0).1).trans h0⟩, ⟨HAL.out.mono hbW, fun k cs t h0 _ _ => (HAL.out.block k (Array.getElem?_eq_some_iff.1 h0).1).trans h0⟩, HI.out.grown (World.grownBy_alloc W _ none) (fun r e => by cases e), ?_⟩
    rintro V hvc - hvs hIV
    obtain ⟨g, hgW⟩ : ∃ g, W.heap.size = g := ⟨_, rfl⟩
    have hsb : ∀ i, V.cell? ⟨g, i, none⟩ = (#[Value.int .i64 x.tm, .int .i64 x.kd, .int .i64 x.a, .int .i64 x.b])[i]? := fun i => (hvc _).trans (Lib.cell_of_heap (heap_last' _ _ hgW) i)
    rw [hgW]
    have z0 : V.cell? ⟨g, 0, none⟩ = some (.int .i64 x.tm) := hsb 0
    have z1 : V.cell? ⟨g, 1, none⟩ = some (.int .i64 x.kd) := hsb 1
    have z2 : V.cell? ⟨g, 2, none⟩ = some (.int .i64 x.a) := hsb 2
    have z3 : V.cell? ⟨g, 3, none⟩ = some (.int .i64 x.b) := hsb 3
    obtain ⟨v, hvI⟩ := hIV
    have zb : V.cell? ⟨Bs, 0, none⟩ = some v := cell_of_one hvI.1
    have HVI := Lib.hid hvI
    have HROW2 := Lib.hid (hvI.2.1.alloc (.cells #[.int .i64 x.tm, .int .i64 x.kd, .int .i64 x.a, .int .i64 x.b] 28))
    have HNEW := Lib.hid (heap_last V (.cells #[.int .i64 x.tm, .int .i64 x.kd, .int .i64 x.a, .int .i64 x.b] 28))
    have HLE : Hid (Bs ≤ (V.alloc (.cells #[.int .i64 x.tm, .int .i64 x.kd, .int .i64 x.a, .int .i64 x.b] 28)).heap.size) := Lib.hid (by rw [size_alloc]; have := hvI.2.2.2.1; omega)
    have HLN : Hid (pre.length ≤ 1000) := Lib.hid (by omega)
    clear hvc hvs hsb hvI HAL hgW HI hbW
    gi_wp2_with (gi_at_builtin; refine append_eventsIn rfl _ _ rfl (by rfl) (base := Bs) (L := pre) (X := [x]) (M := pre ++ [x]) HROW2.out HLE.out HLN.out (by rfl) (evs_block HNEW.out) (by rfl) (by omega) (by omega) rfl ?_; intro g' c' w5 hrow5 hb5 hg5; obtain ⟨y1, y2⟩ := seq_box HVI.out hg5; have HROW5 := Lib.hid hrow5; have HG5 := Lib.hid hg5; clear hrow5 hb5 hg5 HNEW z0 z1 z2 z3 zb)
    exact seq_end HVI.out HbB.out HG5.out (by have h := HROW5.out; rw [List.length_append] at h; exact h)
  case done =>
    rintro D xs W hD rfl hI hKd
    have HKD := Lib.hid hKd
    obtain ⟨v, h1, h2, h3, h4, h5⟩ := hI
    have zb : W.cell? ⟨Bs, 0, none⟩ = some v := cell_of_one h1
    have HR := Lib.hid h2
    have HB3 := Lib.hid h3
    have h6 := HS1.out
    have h7 := HbB.out
    have HbD : Hid (b ≤ D) := Lib.hid (by have := HBS.out; omega)
    have HBR := HBS.out
    clear h1 h2 h3 hKd h6 h7
    go_wp2_with fail
    refine ⟨by simp, .inl ⟨_, _, rfl, run_takeDeferred HKD.out, ?_⟩⟩
    refine ⟨_, results_tmp rfl _ _ _, v, rfl, ?_, ?_⟩
    · subst HBR
      refine HR.out.grown (grownBy_putObj' W D _) (fun k e => ?_)
      cases e
      exact ⟨_, HKD.out, fun cur e => by cases e⟩
    · exact HB3.out.grown (grownBy_putObj' W D _) h5 (fun k e => by cases e; exact HbD.out)
  case stop =>
    rintro D cc ys W hD _ hF
    exact hF.elim
theorem collect_any (b bx bm : Nat) (E : List Ev) (hE : E.length < 40) (w : World) (Pre : World → Prop) (hb : b < w.heap.size) (hpre : ∀ W, Below w.heap.size w W → Pre W)
    (hit : Iter Fence.wide 4 Tryz.prog 44 #[.pointer (some ⟨bx, 0, none⟩), .pointer (some ⟨bm, 0, none⟩)] (fun x : Ev => #[evV x]) (Own b) (KpT b) (fun xs => xs = E) (fun _ => True) 40 Pre) :
    Calls Tryz.prog 17 #[.func (.func 44) #[] #[.pointer (some ⟨bx, 0, none⟩), .pointer (some ⟨bm, 0, none⟩)]] w fun e w' => ∃ v, e = .returned v ∧ ERow w' w.heap.size v E ∧ Below b w w' := by
  have HC := Lib.hid (appendSeq_any b bx bm E hE w Pre hb hpre hit)
  clear hit hpre
  go_enter Tryz.func17, Tryz.ntmps17
  go_wp2_with fail
  refine HC.out.mono ?_
  rintro e w' ⟨v, rfl, hr, hb'⟩
  have HR := Lib.hid (And.intro hr hb')
  clear hr hb'
  go_wp2_with fail
  go_ret
  exact ⟨v, rfl, HR.out⟩
end Go.Proofs.YtinknenfhohamaaGreatDoor
