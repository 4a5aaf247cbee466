/- A region that draws its order: operations that yield one value in every world of a class, and behind them operations that come in the order of the text. No program in sight. Rows of stamps that a call owns: what they hold, and appending to them. next of the reference: one stamp more. add of the program: one stamp more. Start and Renew, of the program and of the reference. slices.Min on integers, and isBroken. -/
import Derived.StillTail
import Derived.Deep.Quiet
import Derived.Test.YtkihcigojhcmgaaDoorG10
import Derived.Test.YtkihcigojhcmgaaDoorG02
import Derived.Deep.RegionHeld3
import Derived.Lib.BufferMore
namespace Go.Proofs.YtkihcigojhcmgaaDoor
open Go

section
variable {P : Program} {ops : Array Oper} {md : Region.Mode} {C : World → Prop}

/-- After f operations of the head, in whatever order, L holds. -/
def AfterHead (P : Program) (md : Region.Mode) (ops : Array Oper) (C : World → Prop) (n : Nat) (L : Array Bool → Act → Prop) : Nat → Array Bool → Act → Prop
  | 0, done, a => L done a
  | f + 1, done, a => Region.ready md ops done ≠ [] ∧ ∀ i ∈ Region.ready md ops done, i < n ∧ qOp P ops C i (AfterHead P md ops C n L f (done.setIfInBounds i true)) a

theorem AfterHead.any {n g : Nat} {L : Array Bool → Act → Prop} {Q' : Exit → Act → World → Prop} (hL : ∀ done a w, C w → L done a → wpAny P md ops Q' g done a w) :
    ∀ (f : Nat) (done : Array Bool) (a : Act) (w : World), C w → AfterHead P md ops C n L f done a → wpAny P md ops Q' (f + g) done a w := by
  intro f
  induction f with
  | zero => intro done a w hw h; rw [Nat.zero_add]; exact hL _ _ _ hw h
  | succ f ih =>
    intro done a w hw h
    rw [Nat.succ_add]
    refine ⟨fun h0 => absurd h0 h.1, fun i hi => ?_⟩
    exact wpOp_of_qOp hw (fun a' w' hw' h' => ih _ a' w' hw' h') (h.2 i hi).2

theorem AfterHead.first {n i : Nat} {oi : Oper} {v : Value} {L : Array Bool → Act → Prop} (hi : ops[i]? = some oi) (hsel : ∀ (j : Nat) (o : Oper) cs b, ops[j]? = some o → o.op ≠ .select cs b)
    (hs : Region.sinkB md ops n = true) (hc : Region.chainB md ops n = true) (hn : n < ops.size) (hin : i < n)
    (hL : ∀ done a, L done a → ∀ j ∈ Region.ready md ops done, n ≤ j) (f : Nat) : ∀ (done : Array Bool) (a : Act), HeadInv md ops n done →
      (∀ j oj, ops[j]? = some oj → j ≠ i → done.getD j true = false → (∀ e ∈ oj.after, Region.binds md e = true → e.on ≠ i) → oi.apart ops oj = true) →
      i ∈ Region.ready md ops done → YieldsIn P ops C oi v a →
      AfterHead P md ops C n L f (done.setIfInBounds i true) (a.put oi.dst v) → AfterHead P md ops C n L (f + 1) done a := by
  have low : ∀ (done : Array Bool), HeadInv md ops n done → i ∈ Region.ready md ops done → ∀ j ∈ Region.ready md ops done, j < n := by
    intro done inv hr j hj
    apply Nat.lt_of_not_le
    intro h
    exact tail_waits hs hc hn inv _ i rfl hin (mem_ready.1 hr).1 j h hj
  induction f with
  | zero =>
    intro done a inv _ hr hy H
    refine ⟨(by intro h; rw [h] at hr; cases hr), fun j hj => ⟨low done inv hr j hj, ?_⟩⟩
    by_cases hji : j = i
    · subst hji; exact hy.qOp hi H
    · have h1 := hL _ _ H j (ready_mono hj hji)
      have h2 := low done inv hr j hj
      omega
  | succ f ih =>
    intro done a inv hfree hr hy H
    refine ⟨(by intro h; rw [h] at hr; cases hr), fun j hj => ⟨low done inv hr j hj, ?_⟩⟩
    by_cases hji : j = i
    · subst hji; exact hy.qOp hi H
    obtain ⟨hjd, oj, hoj, hall⟩ := mem_ready.1 hj
    have hnot : ∀ e ∈ oj.after, Region.binds md e = true → e.on ≠ i := by
      intro e he hb heq
      have h1 := hall e he hb
      rw [heq, getD_both (mem_ready.1 hr).1] at h1
      cases h1
    have h2 := qOp_put hoj (hfree j oj hoj hji hjd hnot) (fun cs b => hsel i oi cs b hi) (fun cs b => hsel j oj cs b hoj) hy (H.2 j (ready_mono hj hji)).2
    refine qOp_mono ?_ h2
    rintro a' ⟨h3, h4⟩
    refine ih _ a' (inv.set hj (low done inv hr j hj)) ?_ (ready_mono hr (Ne.symm hji)) h3 ?_
    · intro k ok hk hki hkd hno
      refine hfree k ok hk hki ?_ hno
      by_cases hjk : j = k
      · rw [← hjk]; exact hjd
      · rwa [getD_set_ne true hjk] at hkd
    · rw [Array.setIfInBounds_comm _ _ hji]; exact h4

theorem AfterHead.lex {n g : Nat} {Lq : Act → Prop} (hsel : Region.noSelect ops = true) (hs : Region.sinkB md ops n = true) (hc : Region.chainB md ops n = true) (hn : n < ops.size) (l : List Oper) :
    ∀ (k : Nat) (done : Array Bool) (a : Act), (∀ j, j < l.length → l[j]? = ops[k + j]?) → k + l.length = n → HeadInv md ops n done → Region.lexHead md ops g l.length k done = true → wpQuiet P ops C Lq l a →
      AfterHead P md ops C n (fun d a' => Region.seqB md ops g n d = true ∧ Lq a') l.length done a := by
  induction l with
  | nil =>
    intro k done a _ hk _ hB h
    obtain rfl : k = n := by simpa using hk
    exact ⟨by simpa [Region.lexHead] using hB, h⟩
  | cons o l ih =>
    intro k done a hl hk inv hB h
    have h0 : ops[k]? = some o := by have := hl 0 (by simp); simpa using this.symm
    simp only [List.length_cons, Region.lexHead, Bool.and_eq_true] at hB
    have hr : k ∈ Region.ready md ops done := by simpa using hB.1.1
    have hkn : k < n := by simp only [List.length_cons] at hk; omega
    have hq : qOp P ops C k (wpQuiet P ops C Lq l) a := by unfold qOp; simp only [h0]; exact h
    obtain ⟨v, hy, hK⟩ := yieldsIn_of_qOp h0 hq
    refine AfterHead.first h0 (Region.noSelect_spec hsel) hs hc hn hkn (fun d a' hL => seqB_ready hL.1) l.length done a inv (Region.free_spec h0 hB.1.2) hr hy ?_
    refine ih (k + 1) _ _ ?_ (by simp only [List.length_cons] at hk; omega) (inv.set hr hkn) hB.2 hK
    intro j hj
    have := hl (j + 1) (by simp; omega)
    rw [show k + 1 + j = k + (j + 1) by omega, ← this]
    simp

/-- One walk: n operations that yield one value in every world of the class, then the rest in the order of the text. -/
theorem region_tailC {id : Nat} {Q : Exit → Act → World → Prop} {a : Act} {w : World} {l : List Oper} (n : Nat) (hm : P.follows .mixedOrders = true) (hB : Region.lexTailB .any l.toArray n = true) (hC : C w.drew)
    (h : wpQuiet P l.toArray C (fun a' => ∀ w', C w' → wpList P l.toArray Q (l.drop n) a' w') (l.take n) a) : (Code.region id l.toArray true).wp P Q a w := by
  simp only [Region.lexTailB, Bool.and_eq_true, decide_eq_true_eq] at hB
  obtain ⟨⟨⟨⟨hsel, hn⟩, hs⟩, hc⟩, hlex⟩ := hB
  have hn' : n < l.length := by simpa using hn
  have htl : (l.take n).length = n := by simp; omega
  have hdl : (l.drop n).length = l.toArray.size - n := by simp
  have inv0 : HeadInv .any l.toArray n (Array.replicate l.toArray.size false) := by
    refine ⟨by simp, ?_, fun t _ ht => getD_in (by simpa using ht) (getD_replicate_false _ _)⟩
    intro j oj _ hj
    rw [getD_replicate_false] at hj
    cases hj
  have H := AfterHead.lex (C := C) (md := .any) (g := l.toArray.size - n) hsel hs hc hn (l.take n) 0 _ a (by
    intro j hj
    rw [htl] at hj
    simp [hj]) (by simpa using htl) inv0 (by rw [htl]; exact hlex) h
  refine wp_region_any hm ?_
  have := AfterHead.any (Q' := Q) (g := l.toArray.size - n) (fun d a' w' hw' hL => by
    have := wpAny_of_seq (md := .any) (Q' := Q) (l.drop n) n d a' w' (fun j => by simp [List.getElem?_drop]) (by rw [hdl]; exact hL.1) (hL.2 w' hw')
    rwa [hdl] at this) _ _ _ _ hC H
  rw [htl, show n + (l.toArray.size - n) = l.toArray.size by omega] at this
  exact this
end
end Go.Proofs.YtkihcigojhcmgaaDoor

namespace Go.Proofs.YtkihcigojhcmgaaDoor
open Go.RowKit
set_option maxRecDepth 100000

theorem Tryd.infoStamp : (Tryd.prog.info? 28).map (fun i => (i.zero, i.size, i.bytes)) = some (some (.agg #[.int .i64 0, .int .i64 0, .int .i64 0, .string ⟨#[]⟩]), 4, 40) := by kernel_rfl
/-- A stamp's cells. -/
def stc (s : Stp) : List Value := [.int .i64 s.day, .int .i64 s.hash, .int .i64 s.wit, .string ⟨s.val.toArray⟩]
def scs : List Stp → List Value
  | [] => []
  | s :: L => stc s ++ scs L
theorem scs_length (L : List Stp) : (scs L).length = L.length * 4 := by
  induction L with
  | nil => rfl
  | cons s L ih => rw [scs, List.length_append, ih, List.length_cons]; simp [stc]; omega
theorem scs_append (L M : List Stp) : scs (L ++ M) = scs L ++ scs M := by
  induction L with
  | nil => rfl
  | cons s L ih => rw [List.cons_append, scs, scs, ih, List.append_assoc]
theorem scs_one (s : Stp) : scs [s] = stc s := by simp [scs]
theorem scs_at : ∀ (L : List Stp) (i : Nat) (s : Stp), L[i]? = some s → ∀ j, j < 4 → (scs L)[i * 4 + j]? = (stc s)[j]?
  | [], i, s, h, _, _ => by simp at h
  | t :: L, 0, s, h, j, hj => by
    simp at h
    subst h
    rw [scs, List.getElem?_append_left (by simp [stc]; omega)]
    simp
  | t :: L, i + 1, s, h, j, hj => by
    rw [scs, List.getElem?_append_right (by simp [stc]; omega)]
    have := scs_at L i s (by simpa using h) j hj
    rw [← this]
    congr 1
    simp [stc]; omega
theorem scs_cell (L : List Stp) (j : Nat) (u : Value) (h : (scs L)[j]? = some u) : ∃ s, L[j / 4]? = some s ∧ (stc s)[j % 4]? = some u := by
  have hl : j < (scs L).length := by
    rcases Nat.lt_or_ge j (scs L).length with h1 | h1
    · exact h1
    · rw [List.getElem?_eq_none h1] at h; cases h
  rw [scs_length] at hl
  have hi : j / 4 < L.length := by omega
  refine ⟨L[j / 4], List.getElem?_eq_getElem hi, ?_⟩
  have := scs_at L (j / 4) L[j / 4] (List.getElem?_eq_getElem hi) (j % 4) (by omega)
  rw [show j / 4 * 4 + j % 4 = j by omega, h] at this
  exact this.symm
theorem scs_one' (L : List Stp) : ∀ u ∈ scs L, u.oneCell' = true := by
  induction L with
  | nil => intro u hu; cases hu
  | cons s L ih =>
    intro u hu
    rw [scs, List.mem_append] at hu
    rcases hu with hu | hu
    · simp [stc] at hu
      rcases hu with rfl | rfl | rfl | rfl <;> rfl
    · exact ih u hu

/-- A row of stamps that the call owns. -/
def SRow (W : World) (base : Nat) (v : Value) (L : List Stp) : Prop := W.ownsRow base 28 4 v L.length (scs L)
theorem SRow.alloc {W : World} {base : Nat} {v : Value} {L : List Stp} (h : SRow W base v L) (o : Obj) : SRow (W.alloc o) base v L := World.ownsRow.alloc h o
theorem SRow.drew {W : World} {base : Nat} {v : Value} {L : List Stp} (h : SRow W base v L) : SRow W.drew base v L := h
theorem SRow.nil (W : World) (base : Nat) : SRow W base (.slice none 0 0) [] := World.ownsRow_nil _ _ _ _
theorem SRow.empty {W : World} {base g : Nat} (h : W.heap[g]? = some (.cells #[] 28 (0, 0))) (hb : base ≤ g) : SRow W base (.slice (some ⟨g, 0, none⟩) 0 0) [] :=
  ⟨rfl, .inr ⟨g, 0, #[], rfl, hb, h, Nat.le_refl _, Nat.zero_le _, rfl, rfl⟩⟩
theorem SRow.mono {W : World} {b base : Nat} {v : Value} {L : List Stp} (h : SRow W base v L) (hb : b ≤ base) : SRow W b v L := by
  refine ⟨h.1, ?_⟩
  rcases h.2 with h2 | ⟨g, cap, cur, h1, h2, h3⟩
  · exact .inl h2
  · exact .inr ⟨g, cap, cur, h1, Nat.le_trans hb h2, h3⟩
theorem SRow.below {W W' : World} {base : Nat} {v : Value} {L : List Stp} (h : SRow W base v L) (hb : Below W.heap.size W W') : SRow W' base v L := by
  refine ⟨h.1, ?_⟩
  rcases h.2 with h2 | ⟨g, cap, cur, h1, h2, h3, h4⟩
  · exact .inl h2
  · refine .inr ⟨g, cap, cur, h1, h2, ?_, h4⟩
    have hlt := (h.lt g (by rw [h1]; rfl)).2
    rw [hb.block g hlt]; exact h3
theorem SRow.form {W : World} {base : Nat} {v : Value} {L : List Stp} (h : SRow W base v L) (hn : 0 < L.length) : ∃ g cap, v = .slice (some ⟨g, 0, none⟩) L.length cap ∧ base ≤ g ∧ g < W.heap.size := World.ownsRow.form h hn
theorem SRow.isSlice {W : World} {base : Nat} {v : Value} {L : List Stp} (h : SRow W base v L) : ∃ a c, v = .slice a L.length c ∧ L.length ≤ c ∧ StS W a L ∧ (a = none → c = 0) := by
  rcases h.2 with ⟨h2, h3⟩ | ⟨g, cap, cur, h1, h2, h3, h4, h5, h6, h7⟩
  · have : L = [] := List.eq_nil_of_length_eq_zero h3
    subst this
    exact ⟨none, 0, h2, Nat.le_refl _, StS.nil _ _, fun _ => rfl⟩
  · refine ⟨_, cap, h1, h4, ?_, fun h => by cases h⟩
    subst h1
    have hlt := (h.lt g rfl).2
    intro i s hi
    have hil : i < L.length := (List.getElem?_eq_some_iff.1 hi).1
    have key : ∀ j, j < 4 → W.cell? ⟨g, 0 + i * 4 + j, none⟩ = (stc s)[j]? := by
      intro j hj
      rw [Nat.zero_add, ← scs_at L i s hi j hj]
      exact World.ownsRow.cellAt h (i * 4 + j) (by omega)
    exact ⟨g, 0, rfl, hlt, key 0 (by omega), key 1 (by omega), key 2 (by omega), key 3 (by omega)⟩
theorem SRow.sts {W : World} {base g c : Nat} {L : List Stp} (h : SRow W base (.slice (some ⟨g, 0, none⟩) L.length c) L) : StS W (some ⟨g, 0, none⟩) L := by
  obtain ⟨a, c', h1, -, h2, -⟩ := h.isSlice
  injection h1 with h1 _ _
  rw [h1]; exact h2

theorem sts_news {W : World} {xb xo : Nat} {X : List Stp} (h : StS W (some ⟨xb, xo, none⟩) X) (j : Nat) (u : Value) (hj : (scs X)[j]? = some u) : W.cell? (Addr.add ⟨xb, xo, none⟩ j) = some u := by
  obtain ⟨s, h1, h2⟩ := scs_cell X j u hj
  obtain ⟨b, o, hbo, -, c0, c1, c2, c3⟩ := h (j / 4) s h1
  injection hbo with hbo
  injection hbo with e1 e2 _
  subst e1 e2
  rw [Go.WideShapes.add_plain, show xo + j = xo + j / 4 * 4 + j % 4 by omega]
  generalize hq : j % 4 = q at *
  have hq4 : q < 4 := by omega
  rcases q with _ | _ | _ | _ | q
  · exact c0.trans h2
  · exact c1.trans h2
  · exact c2.trans h2
  · exact c3.trans h2
  · omega
/-- Several stamps appended. -/
theorem append_stamps {ops : Array Oper} {rest : List Oper} {o : Oper} {a : Act} {Q : Exit → Act → World → Prop} {w0 : World} (hgd : o.guard = none) (s x : Operand)
    (ho : o.op = .call { callee := .builtin .append, args := #[s, x], argTypes := #[22, 22] })
    {base : Nat} {v : Value} {L : List Stp} (hs : a.eval s = v) (hown : SRow w0 base v L) (hbase : base ≤ w0.heap.size) (hlen : L.length ≤ 1000)
    {xb xo m xc : Nat} (hx : a.eval x = .slice (some ⟨xb, xo, none⟩) m xc) {X : List Stp} (hX : StS w0 (some ⟨xb, xo, none⟩) X) (hXl : X.length = m) (hm : 0 < m) (hm2 : m ≤ 1000) {M : List Stp} (hM : M = L ++ X)
    (h : ∀ g cap w', SRow w' base (.slice (some ⟨g, 0, none⟩) M.length cap) M → Below base w0 w' → w0.grownBy w' v.ownBlock → (v.ownBlock = some g ∨ g = w0.heap.size) →
      wpList Tryd.prog ops Q rest (a.put o.dst (.slice (some ⟨g, 0, none⟩) M.length cap)) w') :
    wpList Tryd.prog ops Q (o :: rest) a w0 := by
  obtain ⟨i0, hi, hz0, hz1, hz2⟩ := info_parts Tryd.infoStamp
  subst hXl
  refine wpList_append_lies _ hgd s x 22 ho base 28 i0 _ 4 40 Tryd.underlying22 hi hz0 hz1 hz2 rfl (by decide) v L.length (scs L) hs hown ⟨xb, xo, none⟩ X.length xc (scs X) hx (scs_length X) (sts_news hX) (scs_one' X) hm (by unfold maxLen; omega) (by omega) hbase _ rfl ?_
  intro g cap w1 hown' hgrow hat hlt
  have hl : M.length = L.length + X.length := by rw [hM, List.length_append]
  rw [← hl] at hown' ⊢
  refine h g cap w1 ?_ ((Below.refl _ _).grown hgrow hbase (fun k hk => (hown.lt k hk).1)) hgrow hat
  show w1.ownsRow base _ 4 _ M.length (scs M)
  rw [hM, scs_append, ← hM]; exact hown'
/-- The same at a step of a region that draws its order. -/
theorem step_append_stamps {ops : Array Oper} {o : Oper} {a : Act} {K : Act → World → Prop} {Q : Exit → Act → World → Prop} {E : Prop} {w0 : World} (hgd : o.guard = none) (s x : Operand)
    (ho : o.op = .call { callee := .builtin .append, args := #[s, x], argTypes := #[22, 22] })
    {base : Nat} {v : Value} {L : List Stp} (hs : a.eval s = v) (hown : SRow w0 base v L) (hbase : base ≤ w0.heap.size) (hlen : L.length ≤ 1000)
    {xb xo m xc : Nat} (hx : a.eval x = .slice (some ⟨xb, xo, none⟩) m xc) {X : List Stp} (hX : StS w0 (some ⟨xb, xo, none⟩) X) (hXl : X.length = m) (hm : 0 < m) (hm2 : m ≤ 1000) {M : List Stp} (hM : M = L ++ X)
    (h : ∀ g cap w', SRow w' base (.slice (some ⟨g, 0, none⟩) M.length cap) M → Below base w0 w' → w0.grownBy w' v.ownBlock → (v.ownBlock = some g ∨ g = w0.heap.size) →
      K (a.put o.dst (.slice (some ⟨g, 0, none⟩) M.length cap)) w') :
    if Region.wanted o (yielded ops a.tmps) = true then Oper.wp Tryd.prog o a w0 K Q else E := by
  obtain ⟨i0, hi, hz0, hz1, hz2⟩ := info_parts Tryd.infoStamp
  subst hXl
  refine step_append_lies _ hgd s x 22 ho base 28 i0 _ 4 40 Tryd.underlying22 hi hz0 hz1 hz2 rfl (by decide) v L.length (scs L) hs hown ⟨xb, xo, none⟩ X.length xc (scs X) hx (scs_length X) (sts_news hX) (scs_one' X) hm (by unfold maxLen; omega) (by omega) hbase _ rfl ?_
  intro g cap w1 hown' hgrow hat hlt
  have hl : M.length = L.length + X.length := by rw [hM, List.length_append]
  rw [← hl] at hown' ⊢
  refine h g cap w1 ?_ ((Below.refl _ _).grown hgrow hbase (fun k hk => (hown.lt k hk).1)) hgrow hat
  show w1.ownsRow base _ 4 _ M.length (scs M)
  rw [hM, scs_append, ← hM]; exact hown'
/-- Nothing appended, at a step of a region. -/
theorem step_append_nil {ops : Array Oper} {o : Oper} {a : Act} {K : Act → World → Prop} {Q : Exit → Act → World → Prop} {E : Prop} {w0 : World} (hgd : o.guard = none) (s x : Operand)
    (ho : o.op = .call { callee := .builtin .append, args := #[s, x], argTypes := #[22, 22] })
    {base : Nat} {v : Value} {L : List Stp} (hs : a.eval s = v) (hown : SRow w0 base v L) (hx : a.eval x = .slice none 0 0) (h : K (a.put o.dst v) w0) :
    if Region.wanted o (yielded ops a.tmps) = true then Oper.wp Tryd.prog o a w0 K Q else E := by
  have hw : Region.wanted o (yielded ops a.tmps) = true := by simp [Region.wanted, hgd]
  rw [if_pos hw]
  obtain ⟨i0, hi, hz0, hz1, hz2⟩ := info_parts Tryd.infoStamp
  have hrun := run_append_owned_none (P := Tryd.prog) (w := w0) base 22 o.type 28 i0 4 Tryd.underlying22 hi v L.length (scs L) hown
  unfold Oper.wp
  simp [execOp, ho, resolve, invoke, builtin, hs, hx, hrun, Result.andThen]
  exact h
theorem heap_last' (w : World) (o : Obj) {g : Nat} (h : w.heap.size = g) : (w.alloc o).heap[g]? = some o := by subst h; exact heap_last w o
theorem heap_prev' (w : World) (o o2 : Obj) {g : Nat} (h : w.heap.size = g) : ((w.alloc o).alloc o2).heap[g]? = some o := by
  subst h
  have := heap_last w o
  have h2 : w.heap.size < (w.alloc o).heap.size := by rw [size_alloc]; omega
  show ((w.alloc o).heap.push o2)[w.heap.size]? = some o
  rw [Array.getElem?_push_lt h2, ← this, Array.getElem?_eq_getElem h2]
theorem StS.alloc {W : World} {a : Option Addr} {L : List Stp} (h : StS W a L) (o : Obj) : StS (W.alloc o) a L := h.below ((Below.refl _ _).alloc (Nat.le_refl _) _)
theorem StS.drew {W : World} {a : Option Addr} {L : List Stp} (h : StS W a L) : StS W.drew a L := h
/-- A stamp in a new block. -/
theorem sts_block {W : World} {g : Nat} {s : Stp} (h : W.heap[g]? = some (.cells #[.int .i64 s.day, .int .i64 s.hash, .int .i64 s.wit, .string ⟨s.val.toArray⟩] 28 (0, 0))) : StS W (some ⟨g, 0, none⟩) [s] := by
  intro i t hi
  match i, hi with
  | 0, hi =>
    simp at hi
    subst hi
    refine ⟨g, 0, rfl, ?_, ?_⟩
    · rcases Nat.lt_or_ge g W.heap.size with h1 | h1
      · exact h1
      · rw [Array.getElem?_eq_none h1] at h; cases h
    · refine ⟨?_, ?_, ?_, ?_⟩ <;> (rw [Lib.cell_of_heap h]; rfl)
end Go.Proofs.YtkihcigojhcmgaaDoor

namespace Go.Proofs.YtkihcigojhcmgaaDoor
open Go.RowKit
set_option maxRecDepth 100000

/-- What next, Start and Renew return: nothing, or stamps in new memory. -/
def Gave (w : World) (r : Option (List Stp)) (e : Ending) (w' : World) : Prop :=
  Below w.heap.size w w' ∧ match r with
  | none => e = .returned (.tuple #[.slice none 0 0, .int .i64 150])
  | some M => ∃ g c, e = .returned (.tuple #[.slice (some ⟨g, 0, none⟩) M.length c, .int .i64 0]) ∧ SRow w' w.heap.size (.slice (some ⟨g, 0, none⟩) M.length c) M
theorem next_none {L : List Stp} {v : List UInt8} {s : Stp} (h : ¬ (valid s = true ∧ lastDay 0 L ≤ s.day)) : next L v s = none := by
  rw [next, if_neg]
  rw [canNext_iff]
  exact h
theorem next_some {L : List Stp} {v : List UInt8} {s : Stp} (h : valid s = true ∧ lastDay 0 L ≤ s.day) : next L v s = some (L ++ [sealed L v s]) := by
  rw [next, if_pos]
  rw [canNext_iff]
  exact h
theorem lastDay_end (L : List Stp) (i : Nat) (p : Stp) (h : L[i]? = some p) (hl : L.length = i + 1) : lastDay 0 L = p.day := by
  rw [← lastDay_take L i p h, ← hl, List.take_length]

set_option maxHeartbeats 1000000 in
theorem refNext_any (v : List UInt8) (a : Option Addr) (c : Nat) (L : List Stp) (s : Stp) (w : World) (hS : StS w a L) (hF : ∀ x ∈ L, fine x) (hL : L.length < 64) (hv : v.length ≤ 1000) (hn : L = [] → a = none ∧ c = 0) (hsv : s.val.length ≤ 1000) :
    Calls Tryd.prog 37 #[.slice a L.length c, .string ⟨v.toArray⟩, stv s] w fun e w' => Gave w (next L v s) e w' := by
  have HV := Lib.hid (fun W => refValid_any s W)
  have hv3 : ¬ ((65536 : Int) < ((⟨v.toArray⟩ : ByteArray).size : Int)) := by rw [str_size]; omega
  have hv2 : ¬ (65536 < (v.length : Int)) := by omega
  have hv4 : decide (65536 < (v.length : Int)) = false := by rw [decide_eq_false_iff_not]; omega
  cases hval : valid s with
  | false =>
    have hm2 : ¬ ((64 : Int) ≤ (L.length : Int)) := by omega
    have hno : next L v s = none := next_none (fun h => by rw [h.1] at hval; cases hval)
    rw [hno]
    rw [hval] at HV
    simp only [stv] at *
    go_enter Tryd.func37, Tryd.ntmps37
    go_wp2_with fail
    refine (HV.out _).mono ?_
    rintro e w1 ⟨rfl, hb1⟩
    go_upto_region 2 with fail
    go_quiet (fail)
    go_wp2_with fail
    go_ret2
    refine ⟨?_, rfl⟩
    exact Below_drewN (((Below.refl _ w).alloc (Nat.le_refl _) _).trans (hb1.mono (by rw [size_alloc]; omega))) _
  | true =>
    rw [hval] at HV
    have HVAL := Lib.hid hval
    have HFS := Lib.hid (fine_of_valid hval hsv)
    have hday0 : 0 ≤ s.day := ((valid_iff s).1 hval).1
    clear hval
    obtain ⟨m, hm⟩ : ∃ m, L.length = m := ⟨_, rfl⟩
    rw [hm] at hL ⊢
    have hm2 : ¬ ((64 : Int) ≤ (m : Int)) := by omega
    have HM := Lib.hid hm
    have HS := Lib.hid hS
    have HF := Lib.hid hF
    have HNI := Lib.hid hn
    clear hm hS hF hn
    generalize hR : next L v s = R
    have HR := Lib.hid hR
    clear hR
    simp only [stv] at *
    go_enter Tryd.func37, Tryd.ntmps37
    go_wp2_with fail
    refine (HV.out _).mono ?_
    rintro e w1 ⟨rfl, hb1⟩
    have HB1 := Lib.hid (((Below.refl w.heap.size w).alloc (Nat.le_refl _) _).trans (hb1.mono (by rw [size_alloc]; omega)))
    have hsz1 := hb1.size
    rw [size_alloc] at hsz1
    have hblk : w1.heap[w.heap.size]? = some (.cells #[.int .i64 s.day, .int .i64 s.hash, .int .i64 s.wit, .string ⟨s.val.toArray⟩] 28 (0, 0)) := by
      rw [hb1.block w.heap.size (by rw [size_alloc]; omega)]; exact heap_last _ _
    have HBLK := Lib.hid hblk
    have y0 : w1.cell? ⟨w.heap.size, 0, none⟩ = some (.int .i64 s.day) := by rw [Lib.cell_of_heap hblk]; rfl
    have y1 : w1.cell? ⟨w.heap.size, 1, none⟩ = some (.int .i64 s.hash) := by rw [Lib.cell_of_heap hblk]; rfl
    have y2 : w1.cell? ⟨w.heap.size, 2, none⟩ = some (.int .i64 s.wit) := by rw [Lib.cell_of_heap hblk]; rfl
    have y3 : w1.cell? ⟨w.heap.size, 3, none⟩ = some (.string ⟨s.val.toArray⟩) := by rw [Lib.cell_of_heap hblk]; rfl
    clear hb1 hblk
    obtain ⟨T, hT⟩ : ∃ T : Bool, T = !decide (lastDay 0 L ≤ s.day) := ⟨_, rfl⟩
    have HT := Lib.hid hT
    clear hT
    go_upto_region 2 with fail
    go_cut [39] (fun t wx => t = .bool T ∧ ∃ q, wx = w1.drewN q)
    case first =>
      rcases m with _ | i
      · have hTT : T = false := by
          rw [HT.out, List.eq_nil_of_length_eq_zero HM.out]
          simp [lastDay, hday0]
        obtain ⟨rfl, rfl⟩ := HNI.out (List.eq_nil_of_length_eq_zero HM.out)
        subst hTT
        go_quiet (fail)
        go_wp2_with fail
        go_meet
        exact ⟨rfl, _, rfl⟩
      · obtain ⟨p, hpi⟩ : ∃ p, L[i]? = some p := ⟨_, List.getElem?_eq_getElem (by rw [HM.out]; omega)⟩
        obtain ⟨b, o, rfl, hbl, z0, -⟩ := (HS.out.below HB1.out) i p hpi
        have hTT : T = !decide (p.day ≤ s.day) := by rw [HT.out, lastDay_end L i p hpi HM.out]
        have i0 : (0 : Int) ≤ (i : Int) := by omega
        have i1 : (i : Int) < (i : Int) + 1 := by omega
        have i4 : decide ((0 : Int) < (i : Int) + 1) = true := by rw [decide_eq_true_iff]; omega
        have i5 : ¬ ((64 : Int) ≤ (i : Int) + 1) := by omega
        have i6 : decide ((64 : Int) ≤ (i : Int) + 1) = false := by rw [decide_eq_false_iff_not]; omega
        have i7 : IntKind.i64.wrap (i : Int) = i := IntWalk.i64_in _ (by omega)
        rw [show ((i + 1 : Nat) : Int) = (i : Int) + 1 from by push_cast; rfl] at *
        subst hTT
        by_cases hday2 : s.day < p.day
        · have hd3 : decide (s.day < p.day) = true := by rw [decide_eq_true_iff]; exact hday2
          have hnp : decide (p.day ≤ s.day) = false := by rw [decide_eq_false_iff_not]; omega
          go_quiet (fail)
          go_wp2_with fail
          go_meet
          exact ⟨by simp [hnp], _, rfl⟩
        · have hd3 : decide (s.day < p.day) = false := by rw [decide_eq_false_iff_not]; exact hday2
          have hnp : decide (p.day ≤ s.day) = true := by rw [decide_eq_true_iff]; omega
          go_quiet (fail)
          go_wp2_with fail
          go_meet
          exact ⟨by simp [hnp], _, rfl⟩
    case rest =>
    obtain ⟨rfl, q, rfl⟩ := hcut
    cases T with
    | true =>
      have hno : R = none := by
        rw [← HR.out]
        refine next_none (fun h => ?_)
        have k3 := HT.out
        simp [h.2] at k3
      subst hno
      go_wp2_with fail
      go_ret2
      exact ⟨Below_drewN HB1.out _, rfl⟩
    | false =>
      have hld : lastDay 0 L ≤ s.day := by simpa using HT.out
      have HRS := Lib.hid (HR.out.symm.trans (next_some (v := v) ⟨HVAL.out, hld⟩))
      obtain ⟨wd, hwd⟩ : ∃ wd, w1.drewN q = wd := ⟨_, rfl⟩
      have HBD := Lib.hid (show Below w.heap.size w wd by rw [← hwd]; exact Below_drewN HB1.out _)
      have HBK : Hid (wd.heap[w.heap.size]? = some (.cells #[.int .i64 s.day, .int .i64 s.hash, .int .i64 s.wit, .string ⟨s.val.toArray⟩] 28 (0, 0))) := by rw [← hwd]; exact HBLK
      have hbd : w.heap.size < wd.heap.size := by rw [← hwd]; simp; omega
      have HSD := Lib.hid (HS.out.below HB1.out)
      have HSW := Lib.hid (show StS wd a L by rw [← hwd]; exact HSD.out)
      rw [hwd]
      clear hwd HSD y0 y1 y2 y3 HB1 HBLK hsz1 hld HT
      have hcl := cov_len v L hv (by rw [HM.out]; omega) (fun x hx => (HF.out x hx).2.2.2)
      have hnl := nums_len s
      have HCV : Hid (∀ wx, Below wd.heap.size wd wx → Calls Tryd.prog 27 #[.slice a m c, .string ⟨v.toArray⟩, stv s] wx fun e w' => e = .returned (.string ⟨(cov v L ++ nums s).toArray⟩) ∧ Below wd.heap.size wd w') := Lib.hid (by
        intro wx hx
        have hcv := covered_any v a c L s wx (HSW.out.below hx) HF.out (by rw [HM.out]; omega) hv HFS.out
        rw [HM.out] at hcv
        exact hcv.mono fun e w' ⟨h1, h2⟩ => ⟨h1, hx.trans (h2.mono hx.size)⟩)
      have HHA : Hid (∀ wx, Below wd.heap.size wd wx → Calls Tryd.prog 26 #[.int .i64 s.hash, .string ⟨(cov v L ++ nums s).toArray⟩] wx fun e w' => e = .returned (.string ⟨(hashV s.hash (cov v L ++ nums s)).toArray⟩) ∧ Below wd.heap.size wd w') := Lib.hid (by
        intro wx hx
        exact (refHash_any s.hash _ wx (by rw [List.length_append]; omega)).mono fun e w' ⟨h1, h2⟩ => ⟨h1, hx.trans (h2.mono hx.size)⟩)
      have HCE : Hid (∀ wx, Below wd.heap.size wd wx → wx.heap[w.heap.size]? = some (.cells #[.int .i64 s.day, .int .i64 s.hash, .int .i64 s.wit, .string ⟨s.val.toArray⟩] 28 (0, 0))) := Lib.hid (fun wx hx => by rw [hx.block w.heap.size hbd]; exact HBK.out)
      have HCC : Hid (∀ wx, Below wd.heap.size wd wx → wx.cell? ⟨w.heap.size, 0, none⟩ = some (.int .i64 s.day) ∧ wx.cell? ⟨w.heap.size, 1, none⟩ = some (.int .i64 s.hash) ∧ wx.cell? ⟨w.heap.size, 2, none⟩ = some (.int .i64 s.wit) ∧ wx.cell? ⟨w.heap.size, 3, none⟩ = some (.string ⟨s.val.toArray⟩)) := Lib.hid (fun wx hx => by
        have hb := HCE.out wx hx
        refine ⟨?_, ?_, ?_, ?_⟩ <;> (rw [Lib.cell_of_heap hb]; rfl))
      have HC0 := Lib.hid (Below_drewN (Below.refl wd.heap.size wd) 1)
      simp only [stv] at HCV
      clear hcl
      go_upto_region 4 with fail
      refine region_tailC (C := Below wd.heap.size wd) 8 (by kernel_rfl) (by kernel_rfl) HC0.out ?_
      simp only [List.take_succ_cons, List.take_zero, List.drop_succ_cons, List.drop_zero]
      repeat (
        refine wpQuiet_step (fun K hK => ?_)
        go_simp
        first
          | (refine hK _ ?_; clear hK K)
          | (apply Exists.intro
             refine ⟨fun wx hx => ?_, hK _ ?_⟩
             · first
               | (go_at_call 27; exact HCV.out _ hx)
               | (go_at_call 26; exact HHA.out _ hx)
               | exact rfl
               | (obtain ⟨c0, c1, c2, c3⟩ := HCC.out _ hx; go_simp; exact rfl)
             clear hK K))
      refine wpQuiet_nil ?_
      intro w2 hw2
      obtain ⟨c0, c1, c2, c3⟩ := HCC.out _ hw2
      have hfz : w2.frozen? ⟨w.heap.size, 3, none⟩ = false := by
        have := HCE.out _ hw2
        simp [World.frozen?, this]
      go_wp2_with fail
      obtain ⟨t, ht⟩ : ∃ t, t = sealed L v s := ⟨_, rfl⟩
      have HBK2 : Hid ((w2.setCell ⟨w.heap.size, 3, none⟩ (.string ⟨(hashV s.hash (cov v L ++ nums s)).toArray⟩)).heap[w.heap.size]? = some (.cells #[.int .i64 t.day, .int .i64 t.hash, .int .i64 t.wit, .string ⟨t.val.toArray⟩] 28 (0, 0))) := by
        rw [ht]; exact heap_setCell_same w2 w.heap.size 3 _ _ _ (HCE.out _ hw2)
      have HB3 : Hid (Below w.heap.size w (w2.setCell ⟨w.heap.size, 3, none⟩ (.string ⟨(hashV s.hash (cov v L ++ nums s)).toArray⟩))) := (HBD.out.trans (hw2.mono HBD.out.size)).setCell (p := ⟨w.heap.size, 3, none⟩) (Nat.le_refl _) _
      have HS3 : Hid (StS (w2.setCell ⟨w.heap.size, 3, none⟩ (.string ⟨(hashV s.hash (cov v L ++ nums s)).toArray⟩)) a L) := HS.out.below HB3.out
      generalize w2.setCell ⟨w.heap.size, 3, none⟩ (.string ⟨(hashV s.hash (cov v L ++ nums s)).toArray⟩) = w3 at *
      rw [← ht] at HRS
      have h3 := HBK2.out
      have e0 : w3.cell? ⟨w.heap.size, 0, none⟩ = some (.int .i64 t.day) := by rw [Lib.cell_of_heap h3]; rfl
      have e1 : w3.cell? ⟨w.heap.size, 1, none⟩ = some (.int .i64 t.hash) := by rw [Lib.cell_of_heap h3]; rfl
      have e2 : w3.cell? ⟨w.heap.size, 2, none⟩ = some (.int .i64 t.wit) := by rw [Lib.cell_of_heap h3]; rfl
      have e3 : w3.cell? ⟨w.heap.size, 3, none⟩ = some (.string ⟨t.val.toArray⟩) := by rw [Lib.cell_of_heap h3]; rfl
      have hB3 := HB3.out.size
      have hlt3 := World.block_lt_of_cell? _ _ e0
      have HMM := Lib.hid (show (L ++ [t]).length = m + 1 by rw [List.length_append, HM.out]; rfl)
      clear h3 c0 c1 c2 c3 hfz hw2 ht hbd hnl hday0
      rcases m with _ | i
      · obtain ⟨rfl, rfl⟩ := HNI.out (List.eq_nil_of_length_eq_zero HM.out)
        obtain rfl : L = [] := List.eq_nil_of_length_eq_zero HM.out
        go_region_held3 (fun w' => w'.cell? ⟨w.heap.size, 0, none⟩ = some (.int .i64 t.day) ∧ w'.cell? ⟨w.heap.size, 1, none⟩ = some (.int .i64 t.hash) ∧ w'.cell? ⟨w.heap.size, 2, none⟩ = some (.int .i64 t.wit) ∧ w'.cell? ⟨w.heap.size, 3, none⟩ = some (.string ⟨t.val.toArray⟩))
          (go_keep)
          (first
            | (refine step_append_nil (by rfl) _ _ (by rfl) (base := w3.heap.size) (L := []) (by rfl) (SRow.empty (by first | exact heap_last' _ _ (by first | rfl | simp) | exact heap_prev' _ _ _ (by first | rfl | simp)) (by first | exact Nat.le_refl _ | (simp; done) | (simp; omega))) (by rfl) ?_)
            | (refine step_append_stamps (by rfl) _ _ (by rfl) (by rfl) (base := w3.heap.size) (L := []) (X := [t]) (M := [t]) (SRow.empty (by first | exact heap_last' _ _ (by first | rfl | simp) | exact heap_prev' _ _ _ (by first | rfl | simp)) (by first | exact Nat.le_refl _ | (simp; done) | (simp; omega))) (by first | exact Nat.le_refl _ | (simp; done) | (simp; omega)) (by simp) (by rfl) (sts_block (by first | exact heap_last' _ _ (by first | rfl | simp) | exact heap_prev' _ _ _ (by first | rfl | simp))) (by rfl) (by omega) (by omega) (by rfl) ?_; intro g1 c1 w4 hrow1 hb4 _ _; have kk := fun o => hb4.cell (p := ⟨w.heap.size, o, none⟩) hlt3))
        all_goals
          have hbt : Below w3.heap.size w3 w4 := Below.trans (by first | exact (((Below.refl _ _).alloc (Nat.le_refl _) _).alloc (by simp) _).drew) hb4
          go_wp2_with fail
          go_ret2
          refine ⟨HB3.out.trans (hbt.mono hB3), ?_⟩
          rw [HRS.out]
          exact ⟨g1, c1, rfl, hrow1.mono hB3⟩
      · obtain ⟨p, hpi⟩ : ∃ p, L[i]? = some p := ⟨_, List.getElem?_eq_getElem (by rw [HM.out]; omega)⟩
        obtain ⟨b, o, rfl, -⟩ := HS.out i p hpi
        clear hpi
        go_region_held3 (fun w' => w'.cell? ⟨w.heap.size, 0, none⟩ = some (.int .i64 t.day) ∧ w'.cell? ⟨w.heap.size, 1, none⟩ = some (.int .i64 t.hash) ∧ w'.cell? ⟨w.heap.size, 2, none⟩ = some (.int .i64 t.wit) ∧ w'.cell? ⟨w.heap.size, 3, none⟩ = some (.string ⟨t.val.toArray⟩))
          (go_keep)
          (first
            | (refine step_append_stamps (by rfl) _ _ (by rfl) (by rfl) (base := w3.heap.size) (L := []) (X := L) (M := L) (SRow.empty (by first | exact heap_last' _ _ (by first | rfl | simp) | exact heap_prev' _ _ _ (by first | rfl | simp)) (by first | exact Nat.le_refl _ | (simp; done) | (simp; omega))) (by first | exact Nat.le_refl _ | (simp; done) | (simp; omega)) (by simp) (by rfl) (by repeat (first | exact HS3.out | apply StS.drew | apply StS.alloc)) HM.out (by omega) (by omega) (by rfl) ?_; intro g1 c1 w4 hrow1 hb4 hg4 hat4; have kk := fun o => hb4.cell (p := ⟨w.heap.size, o, none⟩) hlt3; have hs4 := hb4.size; simp at hs4)
            | (refine step_append_stamps (by rfl) _ _ (by rfl) (by rfl) (base := w3.heap.size) (L := L) (X := [t]) (M := L ++ [t]) (by first | exact hrow1 | exact hrow1.alloc _) (by first | exact Nat.le_refl _ | (simp; done) | omega | (simp; omega)) (by rw [HM.out]; omega) (by rfl) (sts_block (by first | exact (hg4.block _ (by first | (simp; done) | (simp; omega) | omega) (by simp [Value.ownBlock])).trans (heap_prev' _ _ _ (by first | rfl | simp)) | exact (hg4.block _ (by first | (simp; done) | (simp; omega) | omega) (by simp [Value.ownBlock])).trans (heap_last' _ _ (by first | rfl | simp)) | exact heap_last' _ _ (by first | rfl | simp))) (by rfl) (by omega) (by omega) (by rfl) ?_; intro g2 c2 w5 hrow2 hb5 _ _; have kk2 := fun o => hb5.cell (p := ⟨w.heap.size, o, none⟩) hlt3))
        all_goals
          have hbt : Below w3.heap.size w3 w5 := Below.trans (by first | exact (Below.trans ((((Below.refl _ _).alloc (Nat.le_refl _) _).alloc (by simp) _).drew) hb4) | exact (Below.trans (((Below.refl _ _).alloc (Nat.le_refl _) _).drew) hb4).alloc (by omega) _) hb5
          go_wp2_with fail
          go_ret2
          refine ⟨HB3.out.trans (hbt.mono hB3), ?_⟩
          rw [HRS.out]
          exact ⟨g2, c2, by simp only [List.length_append, List.length_cons, List.length_nil]; rfl, hrow2.mono hB3⟩
end Go.Proofs.YtkihcigojhcmgaaDoor

namespace Go.Proofs.YtkihcigojhcmgaaDoor
open Go.RowKit
set_option maxRecDepth 100000

theorem SRow.heap_of {W W' : World} {base : Nat} {v : Value} {L : List Stp} (h : SRow W base v L) (hb : ∀ g, v.ownBlock = some g → W'.heap[g]? = W.heap[g]?) : SRow W' base v L := by
  refine ⟨h.1, ?_⟩
  rcases h.2 with h2 | ⟨g, cap, cur, h1, h2, h3, h4⟩
  · exact .inl h2
  · refine .inr ⟨g, cap, cur, h1, h2, ?_, h4⟩
    rw [hb g (by rw [h1]; rfl)]; exact h3

set_option maxHeartbeats 400000 in
theorem clone_any (a : Option Addr) (c : Nat) (L : List Stp) (w : World) (hS : StS w a L) (hL : L.length < 1000) (hn : L = [] → a = none ∧ c = 0) :
    Calls Tryd.prog 57 #[.slice a L.length c] w fun e w' => ∃ v, e = .returned v ∧ (SRow w' w.heap.size v L ∧ Below w.heap.size w w') := by
  obtain ⟨m, hm⟩ : ∃ m, L.length = m := ⟨_, rfl⟩
  rw [hm] at hL ⊢
  have HM := Lib.hid hm
  have HS := Lib.hid hS
  have HNI := Lib.hid hn
  clear hm hS hn
  rcases m with _ | i
  · have q22 := fun W => Lib.run_eql_slice_nil_nil (P := Tryd.prog) W 0 0 Tryd.underlying22
    obtain rfl : L = [] := List.eq_nil_of_length_eq_zero HM.out
    obtain ⟨rfl, rfl⟩ := HNI.out rfl
    go_enter Tryd.func57, Tryd.ntmps57
    go_wp2_with fail
    go_ret
    exact ⟨_, rfl, SRow.nil _ _, Below.refl _ _⟩
  · obtain ⟨p, hpi⟩ : ∃ p, L[i]? = some p := ⟨_, List.getElem?_eq_getElem (by rw [HM.out]; omega)⟩
    obtain ⟨b, o, rfl, -⟩ := HS.out i p hpi
    clear hpi
    have q22 := fun W => Lib.run_eql_slice_some_nil (P := Tryd.prog) W ⟨b, o, none⟩ (i + 1) c Tryd.underlying22
    go_enter Tryd.func57, Tryd.ntmps57
    go_wp2_with (at_builtin; refine append_stamps rfl _ _ rfl (by rfl) (base := w.heap.size) (L := []) (X := L) (M := L) (SRow.empty (heap_last' _ _ (by first | rfl | simp)) (Nat.le_refl _)) (by simp) (by simp) (by rfl) (HS.out.alloc _) HM.out (by omega) (by omega) (by rfl) ?_; intro g1 c1 w4 hrow1 hb4 _ _)
    go_ret
    exact ⟨_, rfl, hrow1, ((Below.refl _ _).alloc (Nat.le_refl _) _).trans hb4⟩

set_option maxHeartbeats 1000000 in
theorem evAdd_any (v : List UInt8) (a : Option Addr) (c : Nat) (L : List Stp) (s : Stp) (w : World) (hS : StS w a L) (hF : ∀ x ∈ L, fine x) (hL : L.length < 64) (hv : v.length ≤ 1000) (hn : L = [] → a = none ∧ c = 0) (hsv : s.val.length ≤ 1000) (hw : RoundAt w) (hg : 0 < w.heap.size) :
    Calls Tryd.prog 36 #[.slice a L.length c, .string ⟨v.toArray⟩, stv s] w fun e w' => Gave w (next L v s) e w' := by
  have hv3 : ¬ ((65536 : Int) < ((⟨v.toArray⟩ : ByteArray).size : Int)) := by rw [str_size]; omega
  have hv2 : ¬ (65536 < (v.length : Int)) := by omega
  obtain ⟨m, hm⟩ : ∃ m, L.length = m := ⟨_, rfl⟩
  rw [hm] at hL ⊢
  have hm2 : ¬ ((64 : Int) ≤ (m : Int)) := by omega
  have HM := Lib.hid hm
  have HS := Lib.hid hS
  have HF := Lib.hid hF
  have HNI := Lib.hid hn
  have HRA := Lib.hid hw
  have HV := Lib.hid (fun W => isValid_any s W)
  clear hm hS hF hn hw
  generalize hR : next L v s = R
  have HR := Lib.hid hR
  clear hR
  obtain ⟨T, hT⟩ : ∃ T : Bool, T = (decide (0 < m) && decide (s.day < lastDay 0 L)) := ⟨_, rfl⟩
  have HT := Lib.hid hT
  clear hT
  simp only [stv] at *
  go_enter Tryd.func36, Tryd.ntmps36
  go_upto_region 1 with fail
  go_cut [8] (fun t wx => t = .bool T ∧ ∃ q, wx = (w.alloc (.cells #[.int .i64 s.day, .int .i64 s.hash, .int .i64 s.wit, .string ⟨s.val.toArray⟩] 71)).drewN q)
  case first =>
    rcases m with _ | i
    · have hTT : T = false := by rw [HT.out]; simp
      obtain ⟨rfl, rfl⟩ := HNI.out (List.eq_nil_of_length_eq_zero HM.out)
      subst hTT
      go_quiet (fail)
      go_wp2_with fail
      go_meet
      exact ⟨rfl, _, rfl⟩
    · obtain ⟨p, hpi⟩ : ∃ p, L[i]? = some p := ⟨_, List.getElem?_eq_getElem (by rw [HM.out]; omega)⟩
      obtain ⟨b, o, rfl, hbl, z0, -⟩ := (HS.out.alloc (.cells #[.int .i64 s.day, .int .i64 s.hash, .int .i64 s.wit, .string ⟨s.val.toArray⟩] 71)) i p hpi
      have hTT : T = decide (s.day < p.day) := by rw [HT.out, lastDay_end L i p hpi HM.out]; simp
      have i0 : (0 : Int) ≤ (i : Int) := by omega
      have i1 : (i : Int) < (i : Int) + 1 := by omega
      have i4 : decide ((0 : Int) < (i : Int) + 1) = true := by rw [decide_eq_true_iff]; omega
      have i7 : IntKind.i64.wrap (i : Int) = i := IntWalk.i64_in _ (by omega)
      rw [show ((i + 1 : Nat) : Int) = (i : Int) + 1 from by push_cast; rfl] at *
      subst hTT
      go_quiet (fail)
      go_wp2_with fail
      go_meet
      exact ⟨rfl, _, rfl⟩
  case rest =>
  obtain ⟨rfl, q, rfl⟩ := hcut
  have HB1 : Hid (Below w.heap.size w ((w.alloc (.cells #[.int .i64 s.day, .int .i64 s.hash, .int .i64 s.wit, .string ⟨s.val.toArray⟩] 71)).drewN q)) := Lib.hid (Below_drewN ((Below.refl _ w).alloc (Nat.le_refl _) _) q)
  have HBK1 : Hid (((w.alloc (.cells #[.int .i64 s.day, .int .i64 s.hash, .int .i64 s.wit, .string ⟨s.val.toArray⟩] 71)).drewN q).heap[w.heap.size]? = some (.cells #[.int .i64 s.day, .int .i64 s.hash, .int .i64 s.wit, .string ⟨s.val.toArray⟩] 71)) := Lib.hid (heap_last _ _)
  generalize (w.alloc (.cells #[.int .i64 s.day, .int .i64 s.hash, .int .i64 s.wit, .string ⟨s.val.toArray⟩] 71)).drewN q = w1 at *
  have y0 : w1.cell? ⟨w.heap.size, 0, none⟩ = some (.int .i64 s.day) := by rw [Lib.cell_of_heap HBK1.out]; rfl
  have y1 : w1.cell? ⟨w.heap.size, 1, none⟩ = some (.int .i64 s.hash) := by rw [Lib.cell_of_heap HBK1.out]; rfl
  have y2 : w1.cell? ⟨w.heap.size, 2, none⟩ = some (.int .i64 s.wit) := by rw [Lib.cell_of_heap HBK1.out]; rfl
  have y3 : w1.cell? ⟨w.heap.size, 3, none⟩ = some (.string ⟨s.val.toArray⟩) := by rw [Lib.cell_of_heap HBK1.out]; rfl
  have hlt1 := World.block_lt_of_cell? _ _ y0
  go_wp2_with fail
  refine (HV.out w1).mono ?_
  rintro e w2 ⟨rfl, hb2⟩
  clear y0 y1 y2 y3 HV
  have HB2 := Lib.hid (HB1.out.trans (hb2.mono HB1.out.size))
  have HBK2 := Lib.hid ((hb2.block w.heap.size hlt1).trans HBK1.out)
  have hlt2 : w.heap.size < w2.heap.size := Nat.lt_of_lt_of_le hlt1 hb2.size
  clear HBK1 HB1 hlt1 hb2
  cases hval : valid s with
  | false =>
    have hno : R = none := by rw [← HR.out]; exact next_none (fun h => by rw [h.1] at hval; cases hval)
    subst hno
    go_wp2_with fail
    go_ret2
    exact ⟨HB2.out, rfl⟩
  | true =>
  have HVAL := Lib.hid hval
  have hday0 : 0 ≤ s.day := ((valid_iff s).1 hval).1
  clear hval
  cases T with
  | true =>
    have hno : R = none := by
      rw [← HR.out]
      refine next_none (fun h => ?_)
      have k3 := HT.out
      simp at k3
      omega
    subst hno
    go_wp2_with fail
    go_ret2
    exact ⟨HB2.out, rfl⟩
  | false =>
  have hld : lastDay 0 L ≤ s.day := by
    have k3 := HT.out
    rcases m with _ | i
    · rw [List.eq_nil_of_length_eq_zero HM.out]; simpa [lastDay] using hday0
    · simp at k3; omega
  have HRS := Lib.hid (HR.out.symm.trans (next_some (v := v) ⟨HVAL.out, hld⟩))
  have HFS := Lib.hid (fine_of_valid HVAL.out hsv)
  have hcl := cov_len v L hv (by rw [HM.out]; omega) (fun x hx => (HF.out x hx).2.2.2)
  have hcn : cov v L ≠ [] := by
    intro h
    have h1 := congrArg List.length h
    have h2 := encS_pos v
    simp only [cov, List.length_append, List.length_nil] at h1
    omega
  have HCN := Lib.hid hcn
  have HS2 := Lib.hid (HS.out.below HB2.out)
  have HR2 := Lib.hid (HRA.out.below hg HB2.out)
  have hg2 : 0 < w2.heap.size := Nat.lt_trans hg hlt2
  have c0 : w2.cell? ⟨w.heap.size, 0, none⟩ = some (.int .i64 s.day) := by rw [Lib.cell_of_heap HBK2.out]; rfl
  have c1 : w2.cell? ⟨w.heap.size, 1, none⟩ = some (.int .i64 s.hash) := by rw [Lib.cell_of_heap HBK2.out]; rfl
  have c2 : w2.cell? ⟨w.heap.size, 2, none⟩ = some (.int .i64 s.wit) := by rw [Lib.cell_of_heap HBK2.out]; rfl
  have c3 : w2.cell? ⟨w.heap.size, 3, none⟩ = some (.string ⟨s.val.toArray⟩) := by rw [Lib.cell_of_heap HBK2.out]; rfl
  have hf2 : w2.frozen? ⟨w.heap.size, 3, none⟩ = false := by simp [World.frozen?, HBK2.out]
  have HNS := Lib.hid (fun W (h : StS W a L) => newScroll_any v a c L W h HF.out (by rw [HM.out]; omega) hv)
  rw [HM.out] at HNS
  have HVA := Lib.hid (fun B W h1 h2 h3 h4 => value_any s B B (cov v L) W h1 HCN.out (by omega) HFS.out h2 h3 h4)
  simp only [stv] at HVA
  clear hcn hcl hld hday0 HT
  obtain ⟨t, ht⟩ : ∃ t, t = sealed L v s := ⟨_, rfl⟩
  have HTT := Lib.hid ht
  rw [← ht] at HRS
  clear ht
  go_upto_region 4 with fail
  go_cut [46] (fun _ wx => Below w.heap.size w wx ∧ wx.heap[w.heap.size]? = some (.cells #[.int .i64 t.day, .int .i64 t.hash, .int .i64 t.wit, .string ⟨t.val.toArray⟩] 71))
  case first =>
    go_region_with
      (first
        | (go_at_call 44; refine (HNS.out _ (by exact HS2.out)).mono ?_; rintro e w3 ⟨rfl, hs3, hb3⟩; have kk := fun o => hb3.cell (p := ⟨w.heap.size, o, none⟩) hlt2; have kf := hb3.frozen (p := ⟨w.heap.size, 3, none⟩) hlt2)
        | (go_at_call 45; refine (HVA.out _ _ hs3 (HR2.out.below hg2 ((Below.refl w2.heap.size w2).drew.trans hb3)) hg2 hb3.size).mono ?_; rintro e w4 ⟨rfl, hs4, hb4⟩; have kk4 := fun o => hb4.1.cell (p := ⟨w.heap.size, o, none⟩) hlt2; have kf4 := hb4.1.frozen (p := ⟨w.heap.size, 3, none⟩) hlt2))
    all_goals
      go_wp2_with fail
      go_meet
      refine ⟨(HB2.out.trans (((Below.refl w2.heap.size w2).drew.trans (hb3.trans hb4.1)).mono (Nat.le_of_lt hlt2))).setCell (p := ⟨w.heap.size, 3, none⟩) (Nat.le_refl _) _, ?_⟩
      · rw [HTT.out]
        refine heap_setCell_same w4 w.heap.size 3 #[.int .i64 s.day, .int .i64 s.hash, .int .i64 s.wit, .string ⟨s.val.toArray⟩] _ _ ?_
        exact ((hb3.trans hb4.1).block w.heap.size hlt2).trans HBK2.out
  case rest =>
  obtain ⟨hB3, hK3⟩ := hcut
  have HB3 := Lib.hid hB3
  have HK3 := Lib.hid hK3
  have HS3 := Lib.hid (HS.out.below hB3)
  have e0 : wc.cell? ⟨w.heap.size, 0, none⟩ = some (.int .i64 t.day) := by rw [Lib.cell_of_heap hK3]; rfl
  have e1 : wc.cell? ⟨w.heap.size, 1, none⟩ = some (.int .i64 t.hash) := by rw [Lib.cell_of_heap hK3]; rfl
  have e2 : wc.cell? ⟨w.heap.size, 2, none⟩ = some (.int .i64 t.wit) := by rw [Lib.cell_of_heap hK3]; rfl
  have e3 : wc.cell? ⟨w.heap.size, 3, none⟩ = some (.string ⟨t.val.toArray⟩) := by rw [Lib.cell_of_heap hK3]; rfl
  have hsz := hB3.size
  have hlt := World.block_lt_of_cell? _ _ e0
  clear hB3 hK3 HB2 HBK2 c0 c1 c2 c3 hf2 HNS HVA HS2 HR2 hg2 HVAL HFS HCN HTT hlt2 hv3 hv2 hm2
  have HCL := Lib.hid (fun W (h : StS W a L) => clone_any a c L W h (by rw [HM.out]; omega) HNI.out)
  rw [HM.out] at HCL
  go_upto_region 5 with fail
  go_region_held3 (fun w' => w'.cell? ⟨w.heap.size, 0, none⟩ = some (.int .i64 t.day) ∧ w'.cell? ⟨w.heap.size, 1, none⟩ = some (.int .i64 t.hash) ∧ w'.cell? ⟨w.heap.size, 2, none⟩ = some (.int .i64 t.wit) ∧ w'.cell? ⟨w.heap.size, 3, none⟩ = some (.string ⟨t.val.toArray⟩))
    (go_keep)
    (first
      | (go_at_call 57; refine (HCL.out _ (by repeat (first | exact HS3.out | apply StS.drew | apply StS.alloc))).mono ?_; rintro e w4 ⟨x, rfl, hrow1, hb4⟩; have kk := fun o => hb4.cell (p := ⟨w.heap.size, o, none⟩) (by first | exact hlt | (simp; omega)); have hs4 := hb4.size; simp at hs4)
      | (refine step_append_stamps (by rfl) _ _ (by rfl) (by rfl) (base := wc.heap.size) (L := L) (X := [t]) (M := L ++ [t]) (SRow.mono (by first | exact hrow1 | exact hrow1.alloc _) (by first | exact Nat.le_refl _ | (simp; done) | omega | (simp; omega))) (by first | exact Nat.le_refl _ | (simp; done) | omega | (simp; omega)) (by rw [HM.out]; omega) (by rfl) (sts_block (by first | exact (hb4.block _ (by first | (simp; done) | (simp; omega) | omega)).trans (heap_last' _ _ (by first | rfl | simp)) | exact heap_last' _ _ (by first | rfl | simp))) (by rfl) (by omega) (by omega) (by rfl) ?_; intro g2 c2 w5 hrow2 hb5 _ _; have kk2 := fun o => hb5.cell (p := ⟨w.heap.size, o, none⟩) hlt))
  all_goals
    have hbt : Below wc.heap.size wc w5 := Below.trans (by first | exact ((Below.refl wc.heap.size wc).drew.trans (hb4.mono (by simp))).alloc (by first | (simp; done) | (simp; omega) | omega) _ | exact ((Below.refl wc.heap.size wc).drew.alloc (by simp) _).trans (hb4.mono (by simp)) | exact ((Below.refl wc.heap.size wc).alloc (by simp) _).drew.trans (hb4.mono (by simp))) hb5
    go_wp2_with fail
    go_ret2
    refine ⟨HB3.out.trans (hbt.mono hsz), ?_⟩
    rw [HRS.out]
    exact ⟨g2, c2, by simp only [List.length_append, List.length_cons, List.length_nil]; rfl, hrow2.mono hsz⟩
end Go.Proofs.YtkihcigojhcmgaaDoor

namespace Go.Proofs.YtkihcigojhcmgaaDoor
open Go.RowKit
set_option maxRecDepth 100000

/-- A stamp that has no value yet. -/
def bare (d k t : Int) : Stp := ⟨d, k, t, []⟩
theorem check_fine {L : List Stp} {v : List UInt8} (h : check L v = true) : ∀ s ∈ L, fine s := fun s hs => fine_of_ok (chk_ok ((check_iff _ _).1 h).2 s hs)
theorem Gave.trans {w w1 w2 : World} {r : Option (List Stp)} {e : Ending} (hb : Below w.heap.size w w1) (h : Gave w1 r e w2) : Gave w r e w2 := by
  refine ⟨hb.trans (h.1.mono hb.size), ?_⟩
  have h2 := h.2
  cases r with
  | none => exact h2
  | some M =>
    obtain ⟨g, c, h3, h4⟩ := h2
    exact ⟨g, c, h3, h4.mono hb.size⟩
theorem Gave.cases {w w' : World} {r : Option (List Stp)} {e : Ending} (h : Gave w r e w') : Below w.heap.size w w' ∧ ∃ x n, e = .returned (.tuple #[x, .int .i64 n]) ∧ Gave w r (.returned (.tuple #[x, .int .i64 n])) w' := by
  refine ⟨h.1, ?_⟩
  cases r with
  | none => exact ⟨_, _, h.2, h.1, rfl⟩
  | some M =>
    obtain ⟨g, c, h3, h4⟩ := h.2
    exact ⟨_, _, h3, h.1, g, c, rfl, h4⟩

theorem start_any (v : List UInt8) (d k t : Int) (w : World) (hv : v.length ≤ 1000) (hw : RoundAt w) (hg : 0 < w.heap.size) :
    Calls Tryd.prog 23 #[.string ⟨v.toArray⟩, .int .i64 d, .int .i64 k, .int .i64 t] w fun e w' => Gave w (start v (bare d k t)) e w' := by
  have HA := Lib.hid (evAdd_any v none 0 [] (bare d k t) w (StS.nil _ _) (by intro x hx; cases hx) (by decide) hv (fun _ => ⟨rfl, rfl⟩) (by simp [bare]) hw hg)
  clear hw hg
  have HR := Lib.hid (show next [] v (bare d k t) = start v (bare d k t) from rfl)
  rw [HR.out] at HA
  generalize start v (bare d k t) = R at *
  simp only [stv, bare, List.length_nil] at HA
  go_enter Tryd.func23, Tryd.ntmps23
  go_wp2_with fail
  refine HA.out.mono ?_
  intro e w1 h1
  obtain ⟨-, x, n, rfl, h2⟩ := h1.cases
  have H2 := Lib.hid h2
  clear h1 h2
  go_wp2_with fail
  go_ret2
  exact H2.out
theorem refStart_any (v : List UInt8) (d k t : Int) (w : World) (hv : v.length ≤ 1000) :
    Calls Tryd.prog 24 #[.string ⟨v.toArray⟩, .int .i64 d, .int .i64 k, .int .i64 t] w fun e w' => Gave w (start v (bare d k t)) e w' := by
  have HA := Lib.hid (refNext_any v none 0 [] (bare d k t) w (StS.nil _ _) (by intro x hx; cases hx) (by decide) hv (fun _ => ⟨rfl, rfl⟩) (by simp [bare]))
  have HR := Lib.hid (show next [] v (bare d k t) = start v (bare d k t) from rfl)
  rw [HR.out] at HA
  generalize start v (bare d k t) = R at *
  simp only [stv, bare, List.length_nil] at HA
  go_enter Tryd.func24, Tryd.ntmps24
  go_wp2_with fail
  refine HA.out.mono ?_
  intro e w1 h1
  obtain ⟨-, x, n, rfl, h2⟩ := h1.cases
  have H2 := Lib.hid h2
  clear h1 h2
  go_wp2_with fail
  go_ret2
  exact H2.out
theorem renew_any (v : List UInt8) (a : Option Addr) (c : Nat) (L : List Stp) (d k t : Int) (w : World) (hS : StS w a L) (hL : L.length < 64) (hv : v.length ≤ 1000) (hw : RoundAt w) (hg : 0 < w.heap.size) :
    Calls Tryd.prog 18 #[.slice a L.length c, .string ⟨v.toArray⟩, .int .i64 d, .int .i64 k, .int .i64 t] w fun e w' => Gave w (renew L v (bare d k t)) e w' := by
  have HC := Lib.hid (check_any v a c L w hS (Nat.le_of_lt hL) hv hw hg)
  cases hck : check L v with
  | false =>
    have hR : renew L v (bare d k t) = none := by rw [renew, hck]; rfl
    rw [hR]
    rw [hck] at HC
    clear hck hR hS hw
    go_enter Tryd.func18, Tryd.ntmps18
    go_wp2_with fail
    refine HC.out.mono ?_
    rintro e w1 ⟨rfl, hb1⟩
    go_wp2_with fail
    go_ret2
    exact ⟨hb1, rfl⟩
  | true =>
    have hR : renew L v (bare d k t) = next L v (bare d k t) := by rw [renew, hck]; rfl
    rw [hR]
    have hne : L ≠ [] := ((check_iff _ _).1 hck).1
    have HA := Lib.hid (fun W (hb : Below w.heap.size w W) => evAdd_any v a c L (bare d k t) W (hS.below hb) (check_fine hck) hL hv (fun h => absurd h hne) (by simp [bare]) (hw.below hg hb) (Nat.lt_of_lt_of_le hg hb.size))
    rw [hck] at HC
    generalize next L v (bare d k t) = R at *
    simp only [stv, bare] at HA
    clear hck hR hS hw hne
    go_enter Tryd.func18, Tryd.ntmps18
    go_wp2_with fail
    refine HC.out.mono ?_
    rintro e w1 ⟨rfl, hb1⟩
    go_wp2_with fail
    refine (HA.out w1 hb1).mono ?_
    intro e w2 h1
    obtain ⟨-, x, n, rfl, h2⟩ := h1.cases
    have H2 := Lib.hid (Gave.trans hb1 h2)
    clear h1 h2
    go_wp2_with fail
    go_ret2
    exact H2.out
theorem refRenew_any (v : List UInt8) (a : Option Addr) (c : Nat) (L : List Stp) (d k t : Int) (w : World) (hS : StS w a L) (hF : ∀ s ∈ L, s.val.length ≤ 1000) (hL : L.length < 64) (hc : L.length ≤ c) (hv : v.length ≤ 1000) :
    Calls Tryd.prog 19 #[.slice a L.length c, .string ⟨v.toArray⟩, .int .i64 d, .int .i64 k, .int .i64 t] w fun e w' => Gave w (renew L v (bare d k t)) e w' := by
  have HC := Lib.hid (refCheck_any v a c L w hS hF (Nat.le_of_lt hL) hc hv)
  cases hck : check L v with
  | false =>
    have hR : renew L v (bare d k t) = none := by rw [renew, hck]; rfl
    rw [hR]
    rw [hck] at HC
    clear hck hR hS hF
    go_enter Tryd.func19, Tryd.ntmps19
    go_wp2_with fail
    refine HC.out.mono ?_
    rintro e w1 ⟨rfl, hb1⟩
    go_wp2_with fail
    go_ret2
    exact ⟨hb1, rfl⟩
  | true =>
    have hR : renew L v (bare d k t) = next L v (bare d k t) := by rw [renew, hck]; rfl
    rw [hR]
    have hne : L ≠ [] := ((check_iff _ _).1 hck).1
    have HA := Lib.hid (fun W (hb : Below w.heap.size w W) => refNext_any v a c L (bare d k t) W (hS.below hb) (check_fine hck) hL hv (fun h => absurd h hne) (by simp [bare]))
    rw [hck] at HC
    generalize next L v (bare d k t) = R at *
    simp only [stv, bare] at HA
    clear hck hR hS hF hne
    go_enter Tryd.func19, Tryd.ntmps19
    go_wp2_with fail
    refine HC.out.mono ?_
    rintro e w1 ⟨rfl, hb1⟩
    go_wp2_with fail
    refine (HA.out w1 hb1).mono ?_
    intro e w2 h1
    obtain ⟨-, x, n, rfl, h2⟩ := h1.cases
    have H2 := Lib.hid (Gave.trans hb1 h2)
    clear h1 h2
    go_wp2_with fail
    go_ret2
    exact H2.out
end Go.Proofs.YtkihcigojhcmgaaDoor

namespace Go.Proofs.YtkihcigojhcmgaaDoor
open Go.RowKit
set_option maxRecDepth 100000

/-- Integers that a slice holds. -/
def IntS (W : World) (a : Option Addr) (l : List Int) : Prop := ∀ i z, l[i]? = some z → ∃ b o, a = some ⟨b, o, none⟩ ∧ b < W.heap.size ∧ W.cell? ⟨b, o + i, none⟩ = some (.int .i64 z)
theorem IntS.below {W W1 : World} {a : Option Addr} {l : List Int} (h : IntS W a l) (hw : Below W.heap.size W W1) : IntS W1 a l := by
  intro i z hi
  obtain ⟨b, o, ha, hb, hs⟩ := h i z hi
  exact ⟨b, o, ha, Nat.lt_of_lt_of_le hb hw.size, ((bcell hw).1 b _ hb).trans hs⟩
theorem IntS.nil (W : World) (a : Option Addr) : IntS W a [] := by intro i z hi; simp at hi
/-- The least of a list, from a first one on. -/
def least (x : Int) (l : List Int) : Int := l.foldl min x
theorem least_snoc (x : Int) (l : List Int) (z : Int) : least x (l ++ [z]) = min (least x l) z := by simp [least]
theorem least_le (day : Int) : ∀ (l : List Int) (x : Int), decide (least x l ≤ day) = (x :: l).any fun f => decide (f ≤ day) := by
  intro l
  induction l with
  | nil => intro x; rw [Bool.eq_iff_iff, decide_eq_true_iff]; simp [least]
  | cons y l ih =>
    intro x
    have : least x (y :: l) = least (min x y) l := rfl
    rw [this, ih]
    simp only [List.any_cons]
    rw [← Bool.or_assoc]
    congr 1
    rw [Bool.eq_iff_iff]
    simp only [Bool.or_eq_true, decide_eq_true_eq]
    omega

theorem run_min2 {P : Program} (ats : Array TypeId) (ty : TypeId) (x y : Int) (wx : World) : (Builtin.min_ ats ty #[.int .i64 x, .int .i64 y]).run P wx = .ok (.int .i64 (min x y)) wx := by
  have h : (if y < x then y else x) = min x y := by rw [Int.min_def]; split <;> split <;> omega
  rw [← h]
  simp [Builtin.min_, Builtin.min2, List.foldlM, Sem.run_pure]
set_option maxHeartbeats 400000 in
theorem min_any (a : Option Addr) (c : Nat) (x : Int) (l : List Int) (w : World) (hS : IntS w a (x :: l)) (hL : l.length ≤ 1000000) :
    Calls Tryd.prog 35 #[.slice a (l.length + 1) c] w fun e w' => e = .returned (.int .i64 (least x l)) ∧ w = w' := by
  obtain ⟨b, o, rfl, hbl, x0⟩ := hS 0 x rfl
  rw [Nat.add_zero] at x0
  have hx : ∀ i z, (x :: l)[i]? = some z → w.cell? ⟨b, o + i, none⟩ = some (.int .i64 z) := by
    intro i z hi
    obtain ⟨b', o', h1, -, h2⟩ := hS i z hi
    injection h1 with h1
    injection h1 with e1 e2 _
    subst e1 e2
    exact h2
  have HX := Lib.hid hx
  clear hx hS
  obtain ⟨m, hm⟩ : ∃ m, l.length = m := ⟨_, rfl⟩
  rw [hm] at hL ⊢
  have HM := Lib.hid hm
  clear hm
  have hm1 : ¬ ((m : Int) + 1 < 1) := by omega
  have hm2 : (0 : Int) < (m : Int) + 1 := by omega
  have i3 : ((m + 1 : Nat) : Int) = (m : Int) + 1 := by push_cast; rfl
  have hmin := fun u v => run_min2 (P := Tryd.prog) #[3, 3] 3 u v
  generalize hR : least x l = R
  have HR := Lib.hid hR
  clear hR
  go_enter Tryd.func35, Tryd.ntmps35
  go_wp2_with fail
  go_loop [3, 4] (fun v i => ∃ k : Nat, k ≤ m ∧ i = .int .i64 ((k : Int) + 1) ∧ v = .int .i64 (least x (l.take k))) (fun _ i => m + 1 - (intOf i).toNat)
  case atStart => exact ⟨0, by omega, rfl, by simp [least]⟩
  case round =>
    obtain ⟨k, hk, rfl, rfl⟩ := hrel
    by_cases hlt : k < m
    · obtain ⟨z, hz⟩ : ∃ z, l[k]? = some z := ⟨_, List.getElem?_eq_getElem (by rw [HM.out]; exact hlt)⟩
      have hc : w.cell? ⟨b, o + (k + 1), none⟩ = some (.int .i64 z) := HX.out (k + 1) z (by simpa using hz)
      have hn : least x (l.take (k + 1)) = min (least x (l.take k)) z := by rw [List.take_add_one, hz]; exact least_snoc _ _ _
      have HN := Lib.hid hn
      clear hn hz
      generalize least x (l.take k) = y at *
      have n0 : (0 : Int) ≤ (k : Int) + 1 := by omega
      have n1 : (k : Int) + 1 < (m : Int) + 1 := by omega
      have n2 : ((k : Int) + 1).toNat = k + 1 := by omega
      go_wp2_with fail
      go_round
      case rel => exact ⟨k + 1, by omega, by go_num, by rw [HN.out]⟩
      case measure => simp [intOf]; omega
    · obtain rfl : k = m := by omega
      have htl : l.take k = l := List.take_of_length_le (by rw [HM.out]; exact Nat.le_refl _)
      have hd : decide ((k : Int) + 1 < (k : Int) + 1) = false := by simp
      rw [htl, HR.out]
      go_wp2_with fail
      go_ret
      exact ⟨rfl, rfl⟩

theorem isBroken_any (a : Option Addr) (c : Nat) (l : List Int) (day : Int) (w : World) (hS : IntS w a l) (hL : l.length ≤ 1000000) :
    Calls Tryd.prog 55 #[.slice a l.length c, .int .i64 day] w fun e w' => e = .returned (.bool (l.any fun f => decide (f ≤ day))) ∧ w = w' := by
  cases l with
  | nil =>
    simp only [List.length_nil, List.any_nil]
    go_enter Tryd.func55, Tryd.ntmps55
    go_wp2_with fail
    go_ret
    exact ⟨rfl, rfl⟩
  | cons x l =>
    have HB := Lib.hid (least_le day l x)
    have HC := Lib.hid (fun W (h : IntS W a (x :: l)) => min_any a c x l W h (by simp only [List.length_cons] at hL; omega))
    have HS := Lib.hid hS
    simp only [List.length_cons] at *
    clear hS
    rw [← HB.out]
    generalize least x l = y at *
    obtain ⟨m, hm⟩ : ∃ m, l.length = m := ⟨_, rfl⟩
    rw [hm] at hL HC ⊢
    clear hm HB
    have hm2 : (0 : Int) < (m : Int) + 1 := by omega
    have i3 : ((m + 1 : Nat) : Int) = (m : Int) + 1 := by push_cast; rfl
    go_enter Tryd.func55, Tryd.ntmps55
    go_wp2_with fail
    refine (HC.out w HS.out).mono ?_
    rintro e w' ⟨rfl, rfl⟩
    go_wp2_with fail
    go_ret
    exact ⟨rfl, rfl⟩
end Go.Proofs.YtkihcigojhcmgaaDoor
