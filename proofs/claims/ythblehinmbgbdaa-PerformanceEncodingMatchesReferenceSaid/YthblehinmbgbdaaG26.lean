/- A law for a loop that ranges over a function value whose iterator may write cells of its own (a captured counter) between two rounds. No condition; nothing of a program. Small facts on worlds: rows of bytes that the call owns, variables of one cell. No program in sight. What PutInt of package wire comes to: for every integer that has an encoding its bytes, else the error; nothing that lay before the call is turned. What PutInt of package wire comes to: for every integer that has an encoding its bytes, else the error; nothing that lay before the call is turned. -/
import Derived.RangeFuncNested
import Derived.RangeFuncBound
import Derived.RangeFuncCalls
import Derived.RangeFuncLeaves
import Derived.RangeFuncBox
import Derived.Laws.IdiomStrings
import Derived.Laws.BytesArg
import Derived.Test.YthblehinmbgbdaaRows
import Derived.Test.YthblehinmbgbdaaG22
import Derived.Shelf.Abstract
import Derived.WalkKit
import Derived.OwnWalkIn
import Derived.TacticsInMore
import Derived.LoopNIn
import Derived.LoopIn
import Derived.Maps.AppendAt
import Derived.Outline
import Derived.Lib.Hide
import Derived.Laws.BitsAllLaws
namespace Go.Proofs.Ythblehinmbgbdaa
open Go.RowKit

variable {F : Fence} {n : Nat} {P : Program}

/-- An iterator value: what it hands to the rounds and what it may turn. Wr: one own step of it on the world. Kp: what it asks of a round that goes on. Pre: what it asks of the world in which it is called. -/
def Iter {α : Type} (F : Fence) (n : Nat) (P : Program) (g : Nat) (lb : Array Value) (encs : α → Array Value) (Wr Kp : World → World → Prop) (S Sp : List α → Prop) (N : Nat) (Pre : World → Prop) : Prop :=
  ∀ (l : Nat) (J Jx : List α → World → Prop) (W : World), Pre W →
    (∀ s A B, J s A → Wr A B → J s B) → (∀ s A B, Jx s A → Wr A B → Jx s B) →
    (∀ pre x W1, J pre W1 → pre.length < N → YieldAt F (n - 1) P l (encs x) W1 fun e W' =>
      (e = .returned (.bool true) ∧ J (pre ++ [x]) W' ∧ Kp W1 W') ∨ (e = .returned (.bool false) ∧ Jx (pre ++ [x]) W')) →
    J [] W →
    CallsIn F n P g (#[.func (.yield l) #[] #[]] ++ lb) W fun e W' => (∃ v, e = .returned v) ∧ ((∃ xs, S xs ∧ J xs W') ∨ (∃ pre, Sp pre ∧ Jx pre W'))

/-- An own step turns cells alone. -/
def CellsAlone (Wr : World → World → Prop) : Prop := ∀ (A B : World) (k : Nat) (o : Obj), Wr A B → A.heap[k]? = some o → o.isCells = false → B.heap[k]? = some o

theorem wpIn_range {α : Type} {g : Operand} {ps : Array Tmp} {assign body : Code} {Q : Exit → Act → World → Prop} {a : Act} {w : World}
    (hro : F.round = none) (h1 : 1 ≤ n) {gf : Nat} {lb : Array Value} (hg : a.eval g = .func (.func gf) #[] lb) (hFg : F.fn gf) (eg : ∀ args w, (callFunc gf args).run P w = .ok (.enter gf args) w)
    {encs : α → Array Value} {Wr Kp : World → World → Prop} {S Sp : List α → Prop} {N : Nat} {Pre : World → Prop} (hit : Iter F (n - 1) P gf lb encs Wr Kp S Sp N Pre)
    (hWr : CellsAlone Wr) (hpre : ∀ W, Below w.heap.size w W → Pre W)
    (hKt : ∀ {A B C : World}, Kp A B → Kp B C → Kp A C) (hKb : ∀ (W : World) (l : Nat) (o o' : Obj), w.heap.size ≤ l → W.heap[l]? = some o → o.isCells = false → Kp W (W.putObj l o'))
    (hps : ∀ x, (encs x).size = ps.size)
    (I : List α → World → Prop) (Ix : Code → List α → World → Prop) (hI : OwnFrom w.heap.size I) (hIx : ∀ c, OwnFrom w.heap.size (Ix c))
    (hIW : ∀ s A B, I s A → Wr A B → I s B) (hIxW : ∀ c s A B, Ix c s A → Wr A B → Ix c s B) (h0 : I [] w)
    (hround : ∀ (l : Nat) (pre : List α) (x : α) (W : World), I pre W → pre.length < N →
      assign.wpIn (F.inRound l) (n - 1 - 1) P (Exit.then (fun a₁ W₁ => KeepsFrom w.heap.size W W₁ ∧ Kp W W₁ ∧ I pre W₁ ∧
          ∀ V, (∀ p, V.cell? p = W₁.cell? p) → (∀ p, V.frozen? p = W₁.frozen? p) → V.heap.size = W₁.heap.size → I pre V →
            body.wpIn (F.inRound l) (n - 1 - 1) P (ownPostG w.heap.size Kp I Ix (pre ++ [x]) V) a₁ V) (fun _ _ _ => False))
        { tmps := (ps.zip (encs x)).foldl (fun t (p, v) => t.setIfInBounds p v) a.tmps, defers := [] } W)
    (hdone : ∀ (D : Nat) (xs : List α) (W : World), w.heap.size ≤ D → S xs → I xs W → W.heap[D]? = some (.deferred (some [])) → Q .normal { a with defers := { target := .collected D, args := #[] } :: a.defers } W)
    (hstop : ∀ (D : Nat) (c : Code) (pre : List α) (W : World), w.heap.size ≤ D → Sp pre → Ix c pre W → W.heap[D]? = some (.deferred (some [])) → c.wpIn F n P Q { a with defers := { target := .collected D, args := #[] } :: a.defers } W) :
    (Code.rangeFunc g ps assign body).wpIn F n P Q a w := by
  refine wpIn_rangeFunc ?_
  intro fn hfn
  rw [hro]
  obtain ⟨mk, hmk⟩ : ∃ mk : LoopState → Option Code → Loop, mk = fun st pe => { state := st, pending := pe, fn, tmps := a.tmps, params := ps, assign, body, defers := w.heap.size } := ⟨_, rfl⟩
  generalize hD : w.heap.size = D at *
  obtain ⟨W1, hW1⟩ : ∃ W1, (w.alloc (.deferred (some []))).alloc (.loop (mk .ready none)) = W1 := ⟨_, rfl⟩
  have hloop : W1.heap[D + 1]? = some (.loop (mk .ready none)) := by
    rw [← hW1, ← hD]; have := World.alloc_heap_new (w.alloc (.deferred (some []))) (.loop (mk .ready none)); rwa [World.size_alloc] at this
  have hdef : W1.heap[D]? = some (.deferred (some [])) := by
    rw [← hW1, ← hD]; exact (Below.heap_alloc _ _ _ (by simp)).trans (World.alloc_heap_new w _)
  have hbel : Below D w W1 := by
    rw [← hW1]; exact ((Below.refl _ w).alloc (by omega) _).alloc (by simp; omega) _
  have hstart : I [] W1 := by rw [← hW1]; exact hI.alloc _ (hI.alloc _ h0)
  refine ⟨D + 1, [{ target := .collected D, args := #[] }], W1, { target := .fn (.func gf) lb, args := #[.func (.yield (D + 1)) #[] #[]] }, W1, gf,
    #[.func (.yield (D + 1)) #[] #[]] ++ lb, W1, ?_, ?_, ?_, ?_, fun _ => h1, ?_⟩
  · rw [← hW1, hmk, ← hD]; exact run_enterLoop_outer _ _ _ _ _
  · simp only [resolve, hg]
    simp [go_sem]
  · intro f' hf'; simp [Target.leads] at hf'; subst hf'; exact hFg
  · simp [invoke, go_sem, eg]
  have after : ∀ (jump : Option Code) (st : LoopState) (pe : Option Code) (V : World), V.heap[D + 1]? = some (.loop (mk st pe)) → V.heap[D]? = some (.deferred (some [])) →
      (Instr.endRound (D + 1) jump).run P V = .ok (.bool jump.isNone) (V.putObj (D + 1) (.loop (mk (if jump.isNone then .ready else .done) jump))) ∧
      (V.putObj (D + 1) (.loop (mk (if jump.isNone then .ready else .done) jump))).heap[D + 1]? = some (.loop (mk (if jump.isNone then .ready else .done) jump)) ∧
      (V.putObj (D + 1) (.loop (mk (if jump.isNone then .ready else .done) jump))).heap[D]? = some (.deferred (some [])) := fun jump st pe V hl hk => by
    have hr := run_endRound (P := P) jump hl
    rw [hmk] at hr ⊢
    exact ⟨hr, World.putObj_heap_same (Array.getElem?_eq_some_iff.1 hl).1, (World.putObj_heap_other (by omega)).trans hk⟩
  refine (hit (D + 1)
    (fun pre W => I pre W ∧ W.heap[D + 1]? = some (.loop (mk .ready none)) ∧ W.heap[D]? = some (.deferred (some [])))
    (fun pre W => ∃ c, Ix c pre W ∧ W.heap[D + 1]? = some (.loop (mk .done (some c))) ∧ W.heap[D]? = some (.deferred (some [])))
    W1 (hpre _ hbel)
    (fun s A B hs hw => ⟨hIW s A B hs.1 hw, hWr A B _ _ hw hs.2.1 rfl, hWr A B _ _ hw hs.2.2 rfl⟩)
    (fun s A B hs hw => by
      obtain ⟨c, hc, hl, hk⟩ := hs
      exact ⟨c, hIxW c s A B hc hw, hWr A B _ _ hw hl rfl, hWr A B _ _ hw hk rfl⟩)
    ?_ ⟨hstart, hloop, hdef⟩).mono ?_
  · rintro pre x W ⟨hi, hl, hk⟩ hlen
    have hy := run_yield (P := P) (args := encs x) hl (by rw [hmk]; exact hps x)
    rw [hmk] at hy
    refine ⟨fn, _, assign, body, hy, roundIn_of_wpIn hfn (wpIn_mono (hround _ pre x W hi hlen) ?_)⟩
    rintro e a₁ W₁ hp
    cases e with
    | exit id => exact hp.elim
    | goto t => exact hp.elim
    | ret => exact hp.elim
    | panic chain => exact hp.elim
    | outgrown => exact hp.elim
    | normal =>
    obtain ⟨hk1, hkp1, hi1, hb⟩ := hp
    have hl1 := hk1.same _ _ (by omega) hl rfl
    have hd1 := hk1.same _ _ (Nat.le_refl _) hk rfl
    have hlt : D + 1 < W₁.heap.size := (Array.getElem?_eq_some_iff.1 hl1).1
    obtain ⟨V, hV⟩ : ∃ V, W₁.putObj (D + 1) (.loop (mk .busy none)) = V := ⟨_, rfl⟩
    have hrun : (Instr.beginRound (D + 1)).run P W₁ = .ok () V := by
      have := run_beginRound (P := P) hl1 (by rw [hmk]); rw [hmk] at this; rw [this, ← hV, hmk]
    refine ⟨V, hrun, ?_⟩
    have hl2 : V.heap[D + 1]? = some (.loop (mk .busy none)) := by rw [← hV]; exact World.putObj_heap_same hlt
    have hk2 : V.heap[D]? = some (.deferred (some [])) := by rw [← hV]; exact (World.putObj_heap_other (by omega)).trans hd1
    have hKV : Kp W V := by rw [← hV]; exact hKt hkp1 (hKb _ _ _ _ (by omega) hl1 rfl)
    have hIV : I pre V := by rw [← hV]; exact hI.putObj _ hi1 (by omega) hl1 rfl
    have hcell : ∀ p, V.cell? p = W₁.cell? p := fun p => by
      by_cases e : p.block = D + 1
      · simp only [World.cell?, e, hl2, hl1]
      · exact World.cell?_of_block (by rw [← hV]; exact World.putObj_heap_other e)
    have hfro : ∀ p, V.frozen? p = W₁.frozen? p := fun p => by
      by_cases e : p.block = D + 1
      · simp only [World.frozen?, e, hl2, hl1]
      · exact World.frozen?_of_block (by rw [← hV]; exact World.putObj_heap_other e)
    refine wpIn_mono (hb V hcell hfro (by rw [← hV]; simp) hIV) ?_
    rintro e a3 W3 hp
    cases e with
    | normal =>
      obtain ⟨hk3, hkp, hi3⟩ := hp
      obtain ⟨hr, hl4, hk4⟩ := after none _ _ W3 (hk3.same _ _ (by omega) hl2 rfl) (hk3.same _ _ (Nat.le_refl _) hk2 rfl)
      exact ⟨_, _, hr, .inl ⟨rfl, ⟨hI.putObj _ hi3 (by omega) (hk3.same _ _ (by omega) hl2 rfl) rfl, hl4, hk4⟩, hKt (hKt hKV hkp) (hKb _ _ _ _ (by omega) (hk3.same _ _ (by omega) hl2 rfl) rfl)⟩⟩
    | ret =>
      obtain ⟨hk3, hi3⟩ := hp
      obtain ⟨hr, hl4, hk4⟩ := after (some .ret) _ _ W3 (hk3.same _ _ (by omega) hl2 rfl) (hk3.same _ _ (Nat.le_refl _) hk2 rfl)
      exact ⟨_, _, hr, .inr ⟨rfl, .ret, (hIx _).putObj _ hi3 (by omega) (hk3.same _ _ (by omega) hl2 rfl) rfl, hl4, hk4⟩⟩
    | exit id =>
      obtain ⟨hk3, hi3⟩ := hp
      obtain ⟨hr, hl4, hk4⟩ := after (some (.exit id)) _ _ W3 (hk3.same _ _ (by omega) hl2 rfl) (hk3.same _ _ (Nat.le_refl _) hk2 rfl)
      exact ⟨_, _, hr, .inr ⟨rfl, .exit id, (hIx _).putObj _ hi3 (by omega) (hk3.same _ _ (by omega) hl2 rfl) rfl, hl4, hk4⟩⟩
    | goto t =>
      obtain ⟨hk3, hi3⟩ := hp
      obtain ⟨hr, hl4, hk4⟩ := after (some (.goto t)) _ _ W3 (hk3.same _ _ (by omega) hl2 rfl) (hk3.same _ _ (Nat.le_refl _) hk2 rfl)
      exact ⟨_, _, hr, .inr ⟨rfl, .goto t, (hIx _).putObj _ hi3 (by omega) (hk3.same _ _ (by omega) hl2 rfl) rfl, hl4, hk4⟩⟩
    | panic ch => exact hp.elim
    | outgrown => exact hp.elim
  · rintro e W2 ⟨⟨v, rfl⟩, (⟨xs, hS, hi, hl, hk⟩ | ⟨pre, hSp, c, hi, hl, hk⟩)⟩
    · have hend := run_endLoop (P := P) hl (by rw [hmk]; simp)
      rw [hmk] at hend hl
      exact ⟨none, _, hend, hdone D xs _ (Nat.le_refl _) hS (hI.putObj _ hi (by omega) hl rfl) ((World.putObj_heap_other (by omega)).trans hk)⟩
    · have hend := run_endLoop (P := P) hl (by rw [hmk]; simp)
      rw [hmk] at hend hl
      exact ⟨some c, _, hend, hstop D c pre _ (Nat.le_refl _) hSp ((hIx c).putObj _ hi (by omega) hl rfl) ((World.putObj_heap_other (by omega)).trans hk)⟩
end Go.Proofs.Ythblehinmbgbdaa

namespace Go.Proofs.Ythblehinmbgbdaa
open Go.RowKit

/-- Bytes as cells. -/
def bcs (l : List UInt8) : List Value := l.map fun b => Value.int .u8 (b.toNat : Int)
theorem bcs_append (a b : List UInt8) : bcs (a ++ b) = bcs a ++ bcs b := by simp [bcs]
theorem bcs_length (l : List UInt8) : (bcs l).length = l.length := by simp [bcs]
theorem bcs_snoc (l : List UInt8) (b : UInt8) : bcs (l ++ [b]) = bcs l ++ [Value.int .u8 (b.toNat : Int)] := by simp [bcs]

/-- The string of an owned row of bytes. -/
theorem convert_owned {P : Program} {src dst e : TypeId} (hs : P.underlying src = some (.slice e)) (he : P.underlying e = some (.int .u8)) (hd : P.underlying dst = some .string)
    {W : World} {base : Nat} {v : Value} {l : List UInt8} (h : W.ownsRow base e 1 v l.length (bcs l)) : (convert src dst v).run P W = .ok (.string ⟨l.toArray⟩) W := by
  rcases h.2 with ⟨rfl, h0⟩ | ⟨g, cap, cur, rfl, hg, hh, r⟩
  · have : l = [] := List.eq_nil_of_length_eq_zero h0
    subst this
    exact run_convert_bytes_nil W src e hs he 0 0 dst hd
  · refine run_convert_bytes_back W src dst e _ cap l hs he hd fun j hj => h.cells (by simp [Value.ownBlock]) j _ ?_
    simp [bcs, hj]

/-- A row stays owned while a variable of another type is stored into. -/
theorem ownsRow_setBox {W : World} {B base size n : Nat} {t e : TypeId} {u v : Value} {xs : List Value} (h : W.ownsRow base e size v n xs) (hb : Boxed W B t u) (hte : t ≠ e) (u' : Value) : (W.setCell ⟨B, 0, none⟩ u').ownsRow base e size v n xs :=
  h.kept (grownBy_setCell' W B u') (.inr (hb.not_row hte h).symm)
theorem below_setBox {B n₀ : Nat} {w W : World} (h : Below n₀ w W) (hB : n₀ ≤ B) (u : Value) : Below n₀ w (W.setCell ⟨B, 0, none⟩ u) := h.setCell (p := ⟨B, 0, none⟩) hB u
/-- That a variable lies in its block abides the turn of blocks that are no cells. -/
theorem ownFrom_box {β : Type} (B0 B : Nat) (t : TypeId) : OwnFrom B0 (fun (_ : β) W => ∃ u, Boxed W B t u) := by
  rintro s X Y row ⟨u, hu⟩ hg hrow
  refine ⟨u, hu.kept hg fun e' => ?_⟩
  obtain ⟨_, o, ho, hc⟩ := hrow B e'.symm
  rw [show X.heap[B]? = _ from hu] at ho; cases ho; cases hc
end Go.Proofs.Ythblehinmbgbdaa

namespace Go.Proofs.Ythblehinmbgbdaa
open Go.RowKit Go.Shelf

attribute [local go_sem] Oper.semAt_some

/-- The numbers that the iterator has, one by one. -/
def chain : Nat → Nat → List Nat
  | 0, _ => []
  | f + 1, z => if z < 128 then [z] else z :: chain f (z / 128)
/-- The byte that is written for one. -/
def grp (x : Nat) : UInt8 := UInt8.ofNat (if x < 128 then x else x % 128 + 128)
theorem chain_leb (f : Nat) : ∀ z : Nat, (chain f z).map grp = leb f z := by
  induction f with
  | zero => intro z; rfl
  | succ f ih =>
    intro z
    rw [chain, leb]
    by_cases h : z < 128
    · rw [if_pos h, if_pos h]; simp [grp, h]
    · rw [if_neg h, if_neg h]; simp [grp, h, ih]

/-- What the iterator asks of a round: its own counter lies as it lay. -/
def KeepsBox (b : Nat) (A B : World) : Prop := B.cell? ⟨b, 0, none⟩ = A.cell? ⟨b, 0, none⟩ ∧ B.frozen? ⟨b, 0, none⟩ = A.frozen? ⟨b, 0, none⟩
/-- What it turns: its own counter. -/
def SetsBox (b : Nat) (A B : World) : Prop := ∃ v, B = A.setCell ⟨b, 0, none⟩ v
theorem SetsBox.cells (b : Nat) : CellsAlone (SetsBox b) := by
  rintro A B k o ⟨v, rfl⟩ hk ho
  exact (KeepsOthers.setCell A ⟨b, 0, none⟩ v).same k o hk ho

/-- The counter, read off the world. -/
def boxOf (b : Nat) (W : World) : Nat := match W.cell? ⟨b, 0, none⟩ with | some v => (intOf v).toNat | none => 0

set_option maxRecDepth 100000 in
set_option maxHeartbeats 1000000 in
theorem groups1_in (n : Nat) (hn : 1 ≤ n) (b z0 : Nat) (hz0 : z0 < 18446744073709551616) :
    Iter Fence.wide n Try.prog 63 #[.pointer (some ⟨b, 0, none⟩)] (fun x : Nat => #[Value.int .u8 ((x : Int) % 128), Value.bool (decide (x < 128))]) (SetsBox b) (KeepsBox b)
      (fun xs => xs = chain 10 z0) (fun _ => True) 10 (fun W => W.cell? ⟨b, 0, none⟩ = some (.int .u64 z0) ∧ W.frozen? ⟨b, 0, none⟩ = false) := by
  rintro l J Jx W ⟨hc, hf⟩ hJ hJx hY h0
  refine callsIn_of_wp Try.func63 rfl trivial ?_ rfl
  simp only [Try.ntmps63, List.size_toArray, List.length_cons, List.length_nil, Nat.reduceAdd, Nat.reduceSub, Array.replicate_succ, Array.replicate_zero, List.push_toArray, List.append_toArray, List.nil_append, List.cons_append]
  gi_wp2
  gi_loopw [3] (fun _ wr => ∃ (pre : List Nat) (z f : Nat), pre ++ chain f z = chain 10 z0 ∧ pre.length + f = 10 ∧ 1 ≤ f ∧ z < 128 ^ f ∧ z < 18446744073709551616 ∧ wr.cell? ⟨b, 0, none⟩ = some (.int .u64 z) ∧ wr.frozen? ⟨b, 0, none⟩ = false ∧ J pre wr)
    (fun _ wr => boxOf b wr)
  case atStart => exact ⟨[], z0, 10, rfl, rfl, by omega, by omega, hz0, hc, hf, h0⟩
  case round =>
    obtain ⟨pre, z, f, hch, hlen, hf0, hzf, hz, hc1, hf1, hJ1⟩ := hrel
    obtain ⟨g, rfl⟩ : ∃ g, f = g + 1 := ⟨f - 1, by omega⟩
    have hY1 := hY pre z wr hJ1 (by omega)
    have hand : bits .and .u64 (z : Int) 127 = (z : Int) % 128 := by
      have := u64_and_nat z 127 hz (by omega)
      rw [show ((127 : Nat) : Int) = 127 from rfl] at this
      rw [this, nat_mask7]; omega
    by_cases hlt : z < 128
    · rw [show (decide (z < 128)) = true by simp [hlt]] at hY1
      have hd : decide ((z : Int) < 128) = true := by simp; omega
      have hfin : pre ++ [z] = chain 10 z0 := by rw [← hch, chain, if_pos hlt]
      obtain ⟨fn, tmps, assign, body, hy, hR⟩ := hY1
      have HF := Lib.hid hfin
      clear hfin hch hzf hJ hJx hY h0 hJ1 hlen
      gi_wp2
      refine hR.mono ?_
      rintro e W3 (⟨rfl, hJ3, hk3⟩ | ⟨rfl, hJx3⟩)
      · gi_wp2
        refine bodyPost_ret (results_none rfl _ _ _) rfl ?_
        exact ⟨⟨_, rfl⟩, .inl ⟨_, HF.out, hJ3⟩⟩
      · gi_wp2
        refine bodyPost_ret (results_none rfl _ _ _) rfl ?_
        exact ⟨⟨_, rfl⟩, .inr ⟨_, trivial, hJx3⟩⟩
    · rw [show (decide (z < 128)) = false by simp [hlt]] at hY1
      have hd : decide ((z : Int) < 128) = false := by simp; omega
      have hfin : (pre ++ [z]) ++ chain g (z / 128) = chain 10 z0 := by rw [← hch, chain, if_neg hlt]; simp
      have hzf' : z / 128 < 128 ^ g := by rw [Nat.pow_succ] at hzf; omega
      have hg1 : 1 ≤ g := by
        rcases Nat.eq_zero_or_pos g with rfl | h
        · simp at hzf; omega
        · exact h
      obtain ⟨fn, tmps, assign, body, hy, hR⟩ := hY1
      have HF := Lib.hid hfin
      have HZ := Lib.hid hzf'
      have HL := Lib.hid hlen
      have HJ := Lib.hid hJ
      clear hfin hch hzf hzf' hJ hJx hY h0 hJ1 hlen
      gi_wp2
      refine hR.mono ?_
      rintro e W3 (⟨rfl, hJ3, hk3⟩ | ⟨rfl, hJx3⟩)
      · have hc3 : W3.cell? ⟨b, 0, none⟩ = some (.int .u64 z) := hk3.1.trans hc1
        have hf3 : W3.frozen? ⟨b, 0, none⟩ = false := hk3.2.trans hf1
        clear hk3
        gi_wp2
        go_roundw
        case rel =>
          refine ⟨pre ++ [z], z / 128, g, HF.out, by have := HL.out; simp; omega, hg1, HZ.out, by omega, ?_, ?_, HJ.out _ _ _ hJ3 ⟨_, rfl⟩⟩
          · rw [World.cell?_setCell_same' _ _ _ (by rw [hc3]; rfl)]; rfl
          · rw [World.frozen?_setCell]; exact hf3
        case measure =>
          have e1 : boxOf b wr = z := by simp [boxOf, hc1, intOf]
          have e2 : boxOf b (W3.setCell ⟨b, 0, none⟩ (.int .u64 ((z : Int) / 128))) = z / 128 := by
            simp only [boxOf]; rw [World.cell?_setCell_same' _ _ _ (by rw [hc3]; rfl)]; simp [intOf]; omega
          rw [e1, e2]; omega
      · gi_wp2
        refine bodyPost_ret (results_none rfl _ _ _) rfl ?_
        exact ⟨⟨_, rfl⟩, .inr ⟨_, trivial, hJx3⟩⟩
end Go.Proofs.Ythblehinmbgbdaa

namespace Go.Proofs.Ythblehinmbgbdaa
open Go.RowKit Go.Shelf

attribute [local go_sem] Oper.semAt_some

theorem groups_in (n : Nat) (z : Int) (w : World) :
    CallsIn Fence.wide n Try.prog 57 #[.int .u64 z] w fun e w' => e = .returned (.func (.func 63) #[] #[.pointer (some ⟨w.heap.size, 0, none⟩)]) ∧ w' = w.alloc (.cells #[.int .u64 z] 85) := by
  refine callsIn_of_wp Try.func57 rfl trivial ?_ rfl
  simp only [Try.ntmps57, List.size_toArray, List.length_cons, List.length_nil, Nat.reduceAdd, Nat.reduceSub, Array.replicate_succ, Array.replicate_zero, List.push_toArray, List.append_toArray, List.nil_append, List.cons_append]
  gi_wp2
  go_ret
  exact ⟨rfl, rfl⟩

theorem wrap64u_id {n : Int} (h0 : 0 ≤ n) (h1 : n < 18446744073709551616) : IntKind.u64.wrap n = n := by rw [IntKind.wrap_u64]; omega
theorem xor_ones (a : Nat) (h : a < 18446744073709551616) : (a ^^^ 18446744073709551615 : Nat) = 18446744073709551615 - a := by
  have e : (BitVec.ofNat 64 a ^^^ BitVec.allOnes 64).toNat = (~~~ (BitVec.ofNat 64 a)).toNat := by rw [BitVec.xor_allOnes]
  rw [BitVec.toNat_xor, BitVec.toNat_not, BitVec.toNat_allOnes, BitVec.toNat_ofNat] at e
  have : a % 2 ^ 64 = a := Nat.mod_eq_of_lt (by omega)
  rw [this] at e
  omega
/-- The number that PutInt makes of n by a shift and an exclusive or. -/
theorem zig_bits (c : Int) (h0 : -4611686018427387903 ≤ c) (h1 : c ≤ 4611686018427387903) :
    bits BinOp.xor IntKind.u64 (IntKind.u64.wrap (IntKind.u64.wrap c * 2)) (IntKind.u64.wrap (c / 9223372036854775808)) = ((zig c : Nat) : Int) := by
  by_cases h : c < 0
  · have e1 : IntKind.u64.wrap (IntKind.u64.wrap c * 2) = ((2 * c + 18446744073709551616).toNat : Nat) := by rw [IntKind.wrap_u64, IntKind.wrap_u64]; omega
    have e2 : IntKind.u64.wrap (c / 9223372036854775808) = ((18446744073709551615 : Nat) : Int) := by rw [IntKind.wrap_u64]; omega
    rw [e1, e2, bits_xor_u64_nat _ _ (by omega) (by omega), xor_ones _ (by omega)]
    unfold zig; rw [if_pos h]; omega
  · have e1 : IntKind.u64.wrap (IntKind.u64.wrap c * 2) = ((2 * c).toNat : Nat) := by rw [IntKind.wrap_u64, IntKind.wrap_u64]; omega
    have e2 : IntKind.u64.wrap (c / 9223372036854775808) = ((0 : Nat) : Int) := by rw [IntKind.wrap_u64]; omega
    rw [e1, e2, bits_xor_u64_nat _ _ (by omega) (by omega), Nat.xor_zero]
    unfold zig; rw [if_neg h]

theorem nat_or_128 {r : Nat} (h : r < 128) : r ||| 128 = r + 128 := by
  have := nat_join 7 128 r (by decide) (by omega)
  rw [Nat.or_comm, this]; omega
theorem grp_or (x : Nat) (h : ¬ x < 128) : bits .or .u8 ((x : Int) % 128) 128 = ((grp x).toNat : Int) := by
  have e : ((x : Int) % 128) = ((x % 128 : Nat) : Int) := by omega
  rw [e, show (128 : Int) = ((128 : Nat) : Int) from rfl, u8_or_nat _ _ (by omega) (by omega), nat_or_128 (by omega)]
  have : (grp x).toNat = x % 128 + 128 := by simp only [grp, if_neg h]; exact ofNat_toNat8 (by omega)
  rw [this]

theorem Try.infoU8 : (Try.prog.info? 5).map (fun i => (i.zero, i.size, i.bytes)) = some (some (.int .u8 0), 1, 1) := by kernel_rfl

set_option maxRecDepth 100000 in
set_option maxHeartbeats 2000000 in
theorem putInt_in (c : Int) (w : World) (h0 : -4611686018427387903 ≤ c) (h1 : c ≤ 4611686018427387903) :
    CallsIn Fence.wide 5 Try.prog 43 #[.int .i64 c] w fun e w' => e = .returned (.tuple #[.string ⟨(enc c).toArray⟩, .int .i64 0]) ∧ Below w.heap.size w w' := by
  obtain ⟨i0, hi, hz0, hz1, hz2⟩ := info_parts Try.infoU8
  refine callsIn_of_wp_marks Try.func43 rfl trivial ?_ rfl
  simp only [Try.ntmps43, List.size_toArray, List.length_cons, List.length_nil, Nat.reduceAdd, Nat.reduceSub, Array.replicate_succ, Array.replicate_zero, List.push_toArray, List.append_toArray, List.nil_append, List.cons_append]
  gi_wp2_with fail
  rw [zig_bits c h0 h1]
  have hz := zig_lt h0 h1
  generalize hzc : zig c = z at *
  refine ⟨trivial, ?_⟩
  refine (groups_in 4 _ _).mono ?_
  rintro e w1 ⟨rfl, rfl⟩
  gi_wp2_with fail
  have bO := (Boxed.new w 47 (.slice none 0 0)).alloc (.cells #[.int .u64 z] 85)
  have bN := Boxed.new (w.alloc (.cells #[.slice none 0 0] 47)) 85 (.int .u64 z)
  rw [World.size_alloc] at bN
  have hB0 : Below w.heap.size w ((w.alloc (.cells #[.slice none 0 0] 47)).alloc (.cells #[.int .u64 z] 85)) := ((Below.refl _ w).alloc (Nat.le_refl _) _).alloc (by simp) _
  have hsz : ((w.alloc (.cells #[.slice none 0 0] 47)).alloc (.cells #[.int .u64 z] 85)).heap.size = w.heap.size + 2 := by simp
  obtain ⟨W0, hW0⟩ : ∃ W0, (w.alloc (.cells #[.slice none 0 0] 47)).alloc (.cells #[.int .u64 z] 85) = W0 := ⟨_, rfl⟩
  rw [hW0] at bO bN hB0 hsz ⊢
  clear hW0
  refine wpIn_range (F := Fence.wide) (n := 5) rfl (by omega) (gf := 63) (lb := #[.pointer (some ⟨w.heap.size + 1, 0, none⟩)]) rfl trivial (enters_of Try.func63 (by kernel_rfl) rfl)
    (groups1_in 4 (by omega) (w.heap.size + 1) z (by omega)) (SetsBox.cells _) ?pre ?kt ?kb (fun _ => rfl)
    (fun pre W => (∃ v, Boxed W w.heap.size 47 v ∧ W.ownsRow w.heap.size 5 1 v pre.length (bcs (pre.map grp)) ∧ True) ∧ (∃ u, Boxed W (w.heap.size + 1) 85 u) ∧ Below w.heap.size w W)
    (fun _ _ _ => False) ?own ?ownx ?wr ?wrx ?start ?round ?done ?stop
  case pre =>
    intro W hb
    exact ⟨(hb.cell (p := ⟨w.heap.size + 1, 0, none⟩) (by simp; omega)).trans bN.cell, (hb.frozen (p := ⟨w.heap.size + 1, 0, none⟩) (by simp; omega)).trans bN.frozen⟩
  case kt =>
    intro X Y Z h k
    exact ⟨k.1.trans h.1, k.2.trans h.2⟩
  case kb =>
    intro W l o o' hl ho hc
    have hne : (w.heap.size + 1 : Nat) ≠ l := by omega
    exact ⟨World.cell?_of_block (World.putObj_heap_other hne), World.frozen?_of_block (World.putObj_heap_other hne)⟩
  case own =>
    exact OwnFrom.and (Own.from (holdsRow_own w.heap.size w.heap.size 47 5 1 (fun pre : List Nat => pre.length) (fun pre => bcs (pre.map grp)) (fun _ _ => True)) _) (OwnFrom.and (ownFrom_box _ _ _) (ownFrom_below (Nat.le_refl _) (by omega)))
  case ownx => exact fun _ _ _ _ _ hs _ _ => hs
  case wr =>
    rintro s X Y ⟨⟨v, hv, hrow, _⟩, ⟨u, hu⟩, hB⟩ ⟨u', rfl⟩
    exact ⟨⟨v, hv.other (by omega) _, ownsRow_setBox hrow hu (by decide) _, trivial⟩, ⟨_, hu.set u'⟩, below_setBox hB (by omega) _⟩
  case wrx => exact fun _ _ _ _ hs _ => hs
  case start => exact ⟨⟨_, bO, World.ownsRow_nil _ _ _ _, trivial⟩, ⟨_, bN⟩, hB0⟩
  case round =>
    rintro l pre x W hI hlen
    gi_wp2
    refine ⟨KeepsFrom.refl _ _, ⟨rfl, rfl⟩, hI, ?_⟩
    clear hI
    rintro V hvc hvf hvs ⟨⟨v, hv, hrow, _⟩, ⟨u, hu⟩, hB⟩
    clear hvc hvf hvs
    have hc := hv.cell
    have hN : pre.length < 10 := hlen
    by_cases hx : x < 128
    · have hd : decide (x < 128) = true := by simp [hx]
      have hg : (x : Int) % 128 = ((grp x).toNat : Int) := by simp [grp, hx]; omega
      gi_wp2_with (gi_at_builtin; refine wpListIn_append_own _ rfl _ _ 47 rfl w.heap.size 5 i0 (.int .u8 0) 1 1 Try.underlying47 hi hz0 hz1 hz2 rfl (by decide) _ _ _ rfl (hrow.alloc _) ⟨V.heap.size, 0, none⟩ 1 1 [.int .u8 ((grp x).toNat : Int)] rfl rfl (cell_one_new _ _ _) (by simp [Value.oneCell']) (by unfold maxLen; omega) (by omega) (by have := hB.size; simp; omega) ?_; intro v' w1 hown' hgrow _; obtain ⟨g', cap', rfl⟩ := ownsRow_succ hown'; obtain ⟨hv1, hv2, hr2, hk2, hb2⟩ := hv.appended (by decide) hrow hB.size (Nat.le_refl _) hown' hgrow; have hc1 := hv1.cell; have hf1 := hv1.frozen)
      have hu2 : Boxed (w1.setCell ⟨w.heap.size, 0, none⟩ (.slice (some ⟨g', 0, none⟩) (pre.length + 1) cap')) (w.heap.size + 1) 85 u := ((hu.alloc _).kept hgrow (hu.not_row (by decide) hrow)).other (by omega) _
      exact ⟨hk2.from _, ⟨hu2.cell.trans hu.cell.symm, hu2.frozen.trans hu.frozen.symm⟩, ⟨_, hv2, by simpa [bcs] using hr2, trivial⟩, ⟨_, hu2⟩, hB.trans hb2⟩
    · have hd : decide (x < 128) = false := by simp [hx]
      have hg : bits .or .u8 ((x : Int) % 128) 128 = ((grp x).toNat : Int) := grp_or x hx
      gi_wp2_with (gi_at_builtin; refine wpListIn_append_own _ rfl _ _ 47 rfl w.heap.size 5 i0 (.int .u8 0) 1 1 Try.underlying47 hi hz0 hz1 hz2 rfl (by decide) _ _ _ rfl (hrow.alloc _) ⟨V.heap.size, 0, none⟩ 1 1 [.int .u8 ((grp x).toNat : Int)] rfl rfl (cell_one_new _ _ _) (by simp [Value.oneCell']) (by unfold maxLen; omega) (by omega) (by have := hB.size; simp; omega) ?_; intro v' w1 hown' hgrow _; obtain ⟨g', cap', rfl⟩ := ownsRow_succ hown'; obtain ⟨hv1, hv2, hr2, hk2, hb2⟩ := hv.appended (by decide) hrow hB.size (Nat.le_refl _) hown' hgrow; have hc1 := hv1.cell; have hf1 := hv1.frozen)
      have hu2 : Boxed (w1.setCell ⟨w.heap.size, 0, none⟩ (.slice (some ⟨g', 0, none⟩) (pre.length + 1) cap')) (w.heap.size + 1) 85 u := ((hu.alloc _).kept hgrow (hu.not_row (by decide) hrow)).other (by omega) _
      exact ⟨hk2.from _, ⟨hu2.cell.trans hu.cell.symm, hu2.frozen.trans hu.frozen.symm⟩, ⟨_, hv2, by simpa [bcs] using hr2, trivial⟩, ⟨_, hu2⟩, hB.trans hb2⟩
  case done =>
    rintro D ys W hD rfl ⟨⟨v, hv, hrow, _⟩, _, hB⟩ hK
    have hc := hv.cell
    have hrow' : W.ownsRow w.heap.size 5 1 v ((chain 10 z).map grp).length (bcs ((chain 10 z).map grp)) := by simpa using hrow
    have hcv := convert_owned (P := Try.prog) (src := 47) (dst := 9) Try.underlying47 Try.underlying5 Try.underlying9 hrow'
    have hout : (chain 10 z).map grp = enc c := by
      rw [chain_leb, enc, hzc]; exact leb_fuel 9 10 z (by omega) (by omega) (by omega)
    gi_wp2
    refine ⟨by simp, .inl ⟨_, _, rfl, run_takeDeferred hK, ?_⟩⟩
    refine ⟨_, results_tmp2 rfl _ _ _, ?_, hB.trans (belowK_b (w := w) (Nat.le_refl _) W D _ _ (by omega) hK rfl rfl)⟩
    rw [← hout]; rfl
  case stop =>
    rintro D c pre W _ _ h _
    exact h.elim

/-- PutInt of an integer that has an encoding. -/
theorem putInt_any (c : Int) (w : World) (h0 : -4611686018427387903 ≤ c) (h1 : c ≤ 4611686018427387903) :
    Calls Try.prog 43 #[.int .i64 c] w fun e w' => e = .returned (.tuple #[.string ⟨(enc c).toArray⟩, .int .i64 0]) ∧ Below w.heap.size w w' :=
  callsIn_wide.1 (putInt_in c w h0 h1)

set_option maxHeartbeats 1000000 in
/-- PutInt of another one. -/
theorem putInt_no (c : Int) (w : World) (h : c < -4611686018427387903 ∨ 4611686018427387903 < c) :
    Calls Try.prog 43 #[.int .i64 c] w fun e w' => e = .returned (.tuple #[.string ⟨#[]⟩, .int .i64 10]) ∧ w = w' := by
  by_cases h1 : c < -4611686018427387903
  · go_enter Try.func43, Try.ntmps43
    go_wp2_with fail
    go_ret2
    exact ⟨rfl, rfl⟩
  · have h2 : 4611686018427387903 < c := by omega
    go_enter Try.func43, Try.ntmps43
    go_wp2_with fail
    go_ret2
    exact ⟨rfl, rfl⟩
end Go.Proofs.Ythblehinmbgbdaa
