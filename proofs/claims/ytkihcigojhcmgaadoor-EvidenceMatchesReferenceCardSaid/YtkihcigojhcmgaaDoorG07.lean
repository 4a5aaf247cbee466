/- A law for a loop that ranges over a function value whose iterator may write cells of its own (a captured counter) between two rounds. No condition; nothing of a program. slices.Chunk over bytes, sixty-four at a time: the iterator. Appending bytes, one by one, to a row that began as the bytes of a string. Package digest: the digest of a string is SHA-256 of its bytes. -/
import Derived.RangeFuncNested
import Derived.RangeFuncBound
import Derived.RangeFuncCalls
import Derived.RangeFuncLeaves
import Derived.RangeFuncBox
import Derived.Test.YtkihcigojhcmgaaDoorG06
import Derived.Shelf.Abstract
import Derived.OwnWalkIn
import Derived.TacticsInMore
import Derived.LoopNIn
import Derived.LoopIn
import Derived.RegionIn
import Derived.BigRegionIn
import Derived.Outline
import Derived.ArgAppend
namespace Go.Proofs.YtkihcigojhcmgaaDoor
open Go.RowKit

variable {F : Fence} {n : Nat} {P : Program}

/-- An iterator value: what it hands to the rounds and what it may turn. Wr: one own step of it on the world. Kp: what it asks of a round that goes on. Pre: what it asks of the world in which it is called. -/
def Iter {α : Type} (F : Fence) (n : Nat) (P : Program) (g : Nat) (lb : Array Value) (encs : α → Array Value) (Wr Kp : World → World → Prop) (S Sp : List α → Prop) (N : Nat) (Pre : World → Prop) : Prop :=
  ∀ (l : Nat) (J Jx : List α → World → Prop) (W : World), Pre W →
    (∀ s A B, J s A → Wr A B → J s B) → (∀ s A B, Jx s A → Wr A B → Jx s B) →
    (∀ pre x W1, J pre W1 → pre.length < N → YieldAt F (n - 1) P l (encs x) W1 fun e W' =>
      (e = .returned (.bool true) ∧ J (pre ++ [x]) W' ∧ Kp W1 W') ∨ (e = .returned (.bool false) ∧ Jx (pre ++ [x]) W')) →
    J [] W →
    CallsIn F n P g (#[.func (.yield l) #[] #[]] ++ lb) W fun e W' => (∃ v, e = .returned v) ∧ ((∃ xs, S xs ∧ J xs W') ∨ (∃ pre, Sp pre ∧ Jx pre W'))

/-- An own step turns cells alone. -/
def CellsAlone (Wr : World → World → Prop) : Prop := ∀ (A B : World) (k : Nat) (o : Obj), Wr A B → A.heap[k]? = some o → o.isCells = false → B.heap[k]? = some o

theorem wpIn_range {α : Type} {g : Operand} {ps : Array Tmp} {assign body : Code} {Q : Exit → Act → World → Prop} {a : Act} {w : World}
    (hro : F.round = none) (h1 : 1 ≤ n) {gf : Nat} {lb : Array Value} (hg : a.eval g = .func (.func gf) #[] lb) (hFg : F.fn gf) (eg : ∀ args w, (callFunc gf args).run P w = .ok (.enter gf args) w)
    {encs : α → Array Value} {Wr Kp : World → World → Prop} {S Sp : List α → Prop} {N : Nat} {Pre : World → Prop} (hit : Iter F (n - 1) P gf lb encs Wr Kp S Sp N Pre)
    (hWr : CellsAlone Wr) (hpre : ∀ W, Below w.heap.size w W → Pre W)
    (hKt : ∀ {A B C : World}, Kp A B → Kp B C → Kp A C) (hKb : ∀ (W : World) (l : Nat) (o o' : Obj), w.heap.size ≤ l → W.heap[l]? = some o → o.isCells = false → Kp W (W.putObj l o'))
    (hps : ∀ x, (encs x).size = ps.size)
    (I : List α → World → Prop) (Ix : Code → List α → World → Prop) (hI : OwnFrom w.heap.size I) (hIx : ∀ c, OwnFrom w.heap.size (Ix c))
    (hIW : ∀ s A B, I s A → Wr A B → I s B) (hIxW : ∀ c s A B, Ix c s A → Wr A B → Ix c s B) (h0 : I [] w)
    (hround : ∀ (l : Nat) (pre : List α) (x : α) (W : World), I pre W → pre.length < N →
      assign.wpIn (F.inRound l) (n - 1 - 1) P (Exit.then (fun a₁ W₁ => KeepsFrom w.heap.size W W₁ ∧ Kp W W₁ ∧ I pre W₁ ∧
          ∀ V, (∀ p, V.cell? p = W₁.cell? p) → (∀ p, V.frozen? p = W₁.frozen? p) → V.heap.size = W₁.heap.size → I pre V →
            body.wpIn (F.inRound l) (n - 1 - 1) P (ownPostG w.heap.size Kp I Ix (pre ++ [x]) V) a₁ V) (fun _ _ _ => False))
        { tmps := (ps.zip (encs x)).foldl (fun t (p, v) => t.setIfInBounds p v) a.tmps, defers := [] } W)
    (hdone : ∀ (D : Nat) (xs : List α) (W : World), w.heap.size ≤ D → S xs → I xs W → W.heap[D]? = some (.deferred (some [])) → Q .normal { a with defers := { target := .collected D, args := #[] } :: a.defers } W)
    (hstop : ∀ (D : Nat) (c : Code) (pre : List α) (W : World), w.heap.size ≤ D → Sp pre → Ix c pre W → W.heap[D]? = some (.deferred (some [])) → c.wpIn F n P Q { a with defers := { target := .collected D, args := #[] } :: a.defers } W) :
    (Code.rangeFunc g ps assign body).wpIn F n P Q a w := by
  refine wpIn_rangeFunc ?_
  intro fn hfn
  rw [hro]
  obtain ⟨mk, hmk⟩ : ∃ mk : LoopState → Option Code → Loop, mk = fun st pe => { state := st, pending := pe, fn, tmps := a.tmps, params := ps, assign, body, defers := w.heap.size } := ⟨_, rfl⟩
  generalize hD : w.heap.size = D at *
  obtain ⟨W1, hW1⟩ : ∃ W1, (w.alloc (.deferred (some []))).alloc (.loop (mk .ready none)) = W1 := ⟨_, rfl⟩
  have hloop : W1.heap[D + 1]? = some (.loop (mk .ready none)) := by
    rw [← hW1, ← hD]; have := World.alloc_heap_new (w.alloc (.deferred (some []))) (.loop (mk .ready none)); rwa [World.size_alloc] at this
  have hdef : W1.heap[D]? = some (.deferred (some [])) := by
    rw [← hW1, ← hD]; exact (Below.heap_alloc _ _ _ (by simp)).trans (World.alloc_heap_new w _)
  have hbel : Below D w W1 := by
    rw [← hW1]; exact ((Below.refl _ w).alloc (by omega) _).alloc (by simp; omega) _
  have hstart : I [] W1 := by rw [← hW1]; exact hI.alloc _ (hI.alloc _ h0)
  refine ⟨D + 1, [{ target := .collected D, args := #[] }], W1, { target := .fn (.func gf) lb, args := #[.func (.yield (D + 1)) #[] #[]] }, W1, gf,
    #[.func (.yield (D + 1)) #[] #[]] ++ lb, W1, ?_, ?_, ?_, ?_, fun _ => h1, ?_⟩
  · rw [← hW1, hmk, ← hD]; exact run_enterLoop_outer _ _ _ _ _
  · simp only [resolve, hg]
    simp [go_sem]
  · intro f' hf'; simp [Target.leads] at hf'; subst hf'; exact hFg
  · simp [invoke, go_sem, eg]
  have after : ∀ (jump : Option Code) (st : LoopState) (pe : Option Code) (V : World), V.heap[D + 1]? = some (.loop (mk st pe)) → V.heap[D]? = some (.deferred (some [])) →
      (Instr.endRound (D + 1) jump).run P V = .ok (.bool jump.isNone) (V.putObj (D + 1) (.loop (mk (if jump.isNone then .ready else .done) jump))) ∧
      (V.putObj (D + 1) (.loop (mk (if jump.isNone then .ready else .done) jump))).heap[D + 1]? = some (.loop (mk (if jump.isNone then .ready else .done) jump)) ∧
      (V.putObj (D + 1) (.loop (mk (if jump.isNone then .ready else .done) jump))).heap[D]? = some (.deferred (some [])) := fun jump st pe V hl hk => by
    have hr := run_endRound (P := P) jump hl
    rw [hmk] at hr ⊢
    exact ⟨hr, World.putObj_heap_same (Array.getElem?_eq_some_iff.1 hl).1, (World.putObj_heap_other (by omega)).trans hk⟩
  refine (hit (D + 1)
    (fun pre W => I pre W ∧ W.heap[D + 1]? = some (.loop (mk .ready none)) ∧ W.heap[D]? = some (.deferred (some [])))
    (fun pre W => ∃ c, Ix c pre W ∧ W.heap[D + 1]? = some (.loop (mk .done (some c))) ∧ W.heap[D]? = some (.deferred (some [])))
    W1 (hpre _ hbel)
    (fun s A B hs hw => ⟨hIW s A B hs.1 hw, hWr A B _ _ hw hs.2.1 rfl, hWr A B _ _ hw hs.2.2 rfl⟩)
    (fun s A B hs hw => by
      obtain ⟨c, hc, hl, hk⟩ := hs
      exact ⟨c, hIxW c s A B hc hw, hWr A B _ _ hw hl rfl, hWr A B _ _ hw hk rfl⟩)
    ?_ ⟨hstart, hloop, hdef⟩).mono ?_
  · rintro pre x W ⟨hi, hl, hk⟩ hlen
    have hy := run_yield (P := P) (args := encs x) hl (by rw [hmk]; exact hps x)
    rw [hmk] at hy
    refine ⟨fn, _, assign, body, hy, roundIn_of_wpIn hfn (wpIn_mono (hround _ pre x W hi hlen) ?_)⟩
    rintro e a₁ W₁ hp
    cases e with
    | exit id => exact hp.elim
    | goto t => exact hp.elim
    | ret => exact hp.elim
    | panic chain => exact hp.elim
    | outgrown => exact hp.elim
    | normal =>
    obtain ⟨hk1, hkp1, hi1, hb⟩ := hp
    have hl1 := hk1.same _ _ (by omega) hl rfl
    have hd1 := hk1.same _ _ (Nat.le_refl _) hk rfl
    have hlt : D + 1 < W₁.heap.size := (Array.getElem?_eq_some_iff.1 hl1).1
    obtain ⟨V, hV⟩ : ∃ V, W₁.putObj (D + 1) (.loop (mk .busy none)) = V := ⟨_, rfl⟩
    have hrun : (Instr.beginRound (D + 1)).run P W₁ = .ok () V := by
      have := run_beginRound (P := P) hl1 (by rw [hmk]); rw [hmk] at this; rw [this, ← hV, hmk]
    refine ⟨V, hrun, ?_⟩
    have hl2 : V.heap[D + 1]? = some (.loop (mk .busy none)) := by rw [← hV]; exact World.putObj_heap_same hlt
    have hk2 : V.heap[D]? = some (.deferred (some [])) := by rw [← hV]; exact (World.putObj_heap_other (by omega)).trans hd1
    have hKV : Kp W V := by rw [← hV]; exact hKt hkp1 (hKb _ _ _ _ (by omega) hl1 rfl)
    have hIV : I pre V := by rw [← hV]; exact hI.putObj _ hi1 (by omega) hl1 rfl
    have hcell : ∀ p, V.cell? p = W₁.cell? p := fun p => by
      by_cases e : p.block = D + 1
      · simp only [World.cell?, e, hl2, hl1]
      · exact World.cell?_of_block (by rw [← hV]; exact World.putObj_heap_other e)
    have hfro : ∀ p, V.frozen? p = W₁.frozen? p := fun p => by
      by_cases e : p.block = D + 1
      · simp only [World.frozen?, e, hl2, hl1]
      · exact World.frozen?_of_block (by rw [← hV]; exact World.putObj_heap_other e)
    refine wpIn_mono (hb V hcell hfro (by rw [← hV]; simp) hIV) ?_
    rintro e a3 W3 hp
    cases e with
    | normal =>
      obtain ⟨hk3, hkp, hi3⟩ := hp
      obtain ⟨hr, hl4, hk4⟩ := after none _ _ W3 (hk3.same _ _ (by omega) hl2 rfl) (hk3.same _ _ (Nat.le_refl _) hk2 rfl)
      exact ⟨_, _, hr, .inl ⟨rfl, ⟨hI.putObj _ hi3 (by omega) (hk3.same _ _ (by omega) hl2 rfl) rfl, hl4, hk4⟩, hKt (hKt hKV hkp) (hKb _ _ _ _ (by omega) (hk3.same _ _ (by omega) hl2 rfl) rfl)⟩⟩
    | ret =>
      obtain ⟨hk3, hi3⟩ := hp
      obtain ⟨hr, hl4, hk4⟩ := after (some .ret) _ _ W3 (hk3.same _ _ (by omega) hl2 rfl) (hk3.same _ _ (Nat.le_refl _) hk2 rfl)
      exact ⟨_, _, hr, .inr ⟨rfl, .ret, (hIx _).putObj _ hi3 (by omega) (hk3.same _ _ (by omega) hl2 rfl) rfl, hl4, hk4⟩⟩
    | exit id =>
      obtain ⟨hk3, hi3⟩ := hp
      obtain ⟨hr, hl4, hk4⟩ := after (some (.exit id)) _ _ W3 (hk3.same _ _ (by omega) hl2 rfl) (hk3.same _ _ (Nat.le_refl _) hk2 rfl)
      exact ⟨_, _, hr, .inr ⟨rfl, .exit id, (hIx _).putObj _ hi3 (by omega) (hk3.same _ _ (by omega) hl2 rfl) rfl, hl4, hk4⟩⟩
    | goto t =>
      obtain ⟨hk3, hi3⟩ := hp
      obtain ⟨hr, hl4, hk4⟩ := after (some (.goto t)) _ _ W3 (hk3.same _ _ (by omega) hl2 rfl) (hk3.same _ _ (Nat.le_refl _) hk2 rfl)
      exact ⟨_, _, hr, .inr ⟨rfl, .goto t, (hIx _).putObj _ hi3 (by omega) (hk3.same _ _ (by omega) hl2 rfl) rfl, hl4, hk4⟩⟩
    | panic ch => exact hp.elim
    | outgrown => exact hp.elim
  · rintro e W2 ⟨⟨v, rfl⟩, (⟨xs, hS, hi, hl, hk⟩ | ⟨pre, hSp, c, hi, hl, hk⟩)⟩
    · have hend := run_endLoop (P := P) hl (by rw [hmk]; simp)
      rw [hmk] at hend hl
      exact ⟨none, _, hend, hdone D xs _ (Nat.le_refl _) hS (hI.putObj _ hi (by omega) hl rfl) ((World.putObj_heap_other (by omega)).trans hk)⟩
    · have hend := run_endLoop (P := P) hl (by rw [hmk]; simp)
      rw [hmk] at hend hl
      exact ⟨some c, _, hend, hstop D c pre _ (Nat.le_refl _) hSp ((hIx c).putObj _ hi (by omega) hl rfl) ((World.putObj_heap_other (by omega)).trans hk)⟩
end Go.Proofs.YtkihcigojhcmgaaDoor

namespace Go.Proofs.YtkihcigojhcmgaaDoor
open Go.RowKit Go.Shelf

attribute [local go_sem] Oper.semAt_some

/-- What the iterator turns: no cell. -/
def Draws (A B : World) : Prop := ∃ q, B = A.drewN q
theorem Draws.cells : CellsAlone Draws := by
  rintro A B k o ⟨q, rfl⟩ hk _
  have : (A.drewN q).heap = A.heap := by induction q with
    | zero => rfl
    | succ q ih => exact ih
  rw [this]; exact hk
/-- What it asks of a round: its two variables lie as they lay. -/
def KeepsTwo (b c : Nat) (A B : World) : Prop := B.cell? ⟨b, 0, none⟩ = A.cell? ⟨b, 0, none⟩ ∧ B.cell? ⟨c, 0, none⟩ = A.cell? ⟨c, 0, none⟩

set_option maxRecDepth 100000 in
set_option maxHeartbeats 1000000 in
theorem chunk1_in (n : Nat) (hn : 1 ≤ n) (b c g pl cap N : Nat) (hpl : pl = 64 * N) (hcap : pl ≤ cap) (hcb : cap ≤ 9223372036854775807) :
    Iter Fence.wide n Tryd.prog 74 #[.pointer (some ⟨b, 0, none⟩), .pointer (some ⟨c, 0, none⟩)] (fun k : Fin N => #[Value.slice (some ⟨g, 64 * k.val, none⟩) 64 64]) Draws (KeepsTwo b c)
      (fun xs => xs.map Fin.val = List.range N) (fun _ => True) N (fun W => W.cell? ⟨b, 0, none⟩ = some (.slice (some ⟨g, 0, none⟩) pl cap) ∧ W.cell? ⟨c, 0, none⟩ = some (.int .i64 64)) := by
  rintro l J Jx W ⟨hc, hd⟩ hJ hJx hY h0
  refine callsIn_of_wp Tryd.func74 rfl trivial ?_ rfl
  simp only [Tryd.ntmps74, List.size_toArray, List.length_cons, List.length_nil, Nat.reduceAdd, Nat.reduceSub, Array.replicate_succ, Array.replicate_zero, List.push_toArray, List.append_toArray, List.nil_append, List.cons_append]
  have HPL := Lib.hid hpl
  clear hpl
  gi_wp2
  gi_loopw [4] (fun i wr => ∃ (k q : Nat) (pre : List (Fin N)), pre.map Fin.val = List.range k ∧ q = 64 * k ∧ k ≤ N ∧ i = .int .i64 (q : Int) ∧ wr.cell? ⟨b, 0, none⟩ = some (.slice (some ⟨g, 0, none⟩) pl cap) ∧ wr.cell? ⟨c, 0, none⟩ = some (.int .i64 64) ∧ J pre wr)
    (fun i _ => pl - (intOf i).toNat)
  case atStart => exact ⟨0, 0, [], rfl, rfl, by omega, rfl, hc, hd, h0⟩
  case round =>
    clear hc hd h0
    obtain ⟨k, q, pre, hpre, hq, hk, rfl, hc, hd, hJ1⟩ := hrel
    have hplen : pre.length = k := by have := congrArg List.length hpre; simpa using this
    by_cases hlt : k < N
    · have hJd := hJ _ _ wr.drew hJ1 ⟨1, rfl⟩
      have hY1 := hY pre ⟨k, hlt⟩ wr.drew hJd (by omega)
      simp only [← hq] at hY1
      have hpre2 : (pre ++ [(⟨k, hlt⟩ : Fin N)]).map Fin.val = List.range (k + 1) := by rw [List.map_append, hpre, List.range_succ]; rfl
      have HPRE := Lib.hid hpre2
      obtain ⟨fn, tmps, assign, body, hy, hR⟩ := hY1
      have hp := HPL.out
      have hq1 : q < pl := by omega
      have hq2 : q + 64 ≤ pl := by omega
      have hq3 : (q : Int) < (pl : Int) := by omega
      have hq4 : (q : Int) ≤ (cap : Int) := by omega
      have hq5 : (q : Int) + 64 ≤ (cap : Int) := by omega
      have hq6 : (64 : Int) ≤ (pl : Int) - (q : Int) := by omega
      have hq0 : (0 : Int) ≤ (q : Int) := by omega
      have hd1 : decide ((q : Int) < (pl : Int)) = true := by rw [decide_eq_true_iff]; omega
      have HQ := Lib.hid hq
      have HJ := Lib.hid hJ
      clear hp hq hJ hJx hY hJ1 hJd hpre hpre2 hplen
      gi_wp2
      gi_region
      all_goals
        gi_wp2
        refine hR.mono ?_
        rintro e W3 (⟨rfl, hJ3, hk3⟩ | ⟨rfl, hJx3⟩)
        · have hc3 : W3.cell? ⟨b, 0, none⟩ = some (.slice (some ⟨g, 0, none⟩) pl cap) := hk3.1.trans hc
          have hd3 : W3.cell? ⟨c, 0, none⟩ = some (.int .i64 64) := hk3.2.trans hd
          clear hk3 hc hd
          gi_wp2
          exact ⟨⟨k + 1, q + 64, _, HPRE.out, by have := HQ.out; omega, by omega, by push_cast; rfl, hc3, hd3, hJ3⟩, by simp [intOf]; omega⟩
        · gi_wp2
          refine bodyPost_ret (results_none rfl _ _ _) rfl ?_
          exact ⟨⟨_, rfl⟩, .inr ⟨_, trivial, hJx3⟩⟩
    · obtain rfl : k = N := by omega
      have hq2 : q = pl := by rw [hq, HPL.out]
      have hd1 : decide ((q : Int) < (pl : Int)) = false := by rw [decide_eq_false_iff_not]; omega
      have hd2 : decide (q < pl) = false := by rw [decide_eq_false_iff_not]; omega
      have HJ1 := Lib.hid hJ1
      have HPRE := Lib.hid hpre
      clear hJ hJx hY hJ1 hq hq2 hpre hplen
      gi_wp2
      exact bodyPost_end (results_none rfl _ _ _) rfl ⟨⟨_, rfl⟩,   .inl ⟨_, HPRE.out, HJ1.out⟩⟩
end Go.Proofs.YtkihcigojhcmgaaDoor

namespace Go.Proofs.YtkihcigojhcmgaaDoor
open Go.RowKit

/-- A row of bytes of the call's own, with spare room behind it. -/
structure LRow (W : World) (base g n cap : Nat) (L : List UInt8) : Prop where
  ge : base ≤ g
  lt : g < W.heap.size
  le : n ≤ cap
  max : cap ≤ maxLen
  len : L.length = n
  cells : Octets W g 0 L
  spare : ∀ j, n ≤ j → j < cap → (W.cell? ⟨g, j, none⟩).isSome = true ∧ W.frozen? ⟨g, j, none⟩ = false
theorem bytesRow_at' (s : ByteArray) (cap j : Nat) (h : j < s.data.size) : (bytesRow s cap)[j]? = some (.int .u8 ((s.data.toList.getD j 0).toNat : Int)) := by
  unfold bytesRow
  rw [Array.getElem?_append_left (by simpa using h), Array.getElem?_map, List.getD_eq_getElem?_getD, Array.getElem?_toList, Array.getElem?_eq_getElem h]; rfl
theorem bytesRow_size (s : ByteArray) (cap : Nat) (h : s.size ≤ cap) : (bytesRow s cap).size = cap := by
  have h0 : s.size = s.data.size := rfl
  unfold bytesRow; simp; omega
theorem lrow_new (w : World) (s : ByteArray) (cap : Nat) (h : s.size ≤ cap) (hm : cap ≤ maxLen) : LRow (w.drew.alloc (.cells (bytesRow s cap) 5 ((bytesRow s cap).size, (bytesRow s cap).size + 1))) w.heap.size w.heap.size s.size cap s.data.toList := by
  have h0 : s.size = s.data.size := rfl
  refine ⟨Nat.le_refl _, by simp, h, hm, by simp, ?_, ?_⟩
  · intro j hj
    have hj' : j < s.data.size := by simpa using hj
    rw [Nat.zero_add]
    have := World.cell?_alloc_mark w.drew (bytesRow s cap) 5 ((bytesRow s cap).size, (bytesRow s cap).size + 1) j
    rw [bytesRow_at' s cap j hj'] at this
    exact this
  · intro j h1 h2
    refine ⟨?_, ?_⟩
    · have := World.cell?_alloc_mark w.drew (bytesRow s cap) 5 ((bytesRow s cap).size, (bytesRow s cap).size + 1) j
      rw [Array.getElem?_eq_getElem (by rw [bytesRow_size s cap h]; exact h2)] at this
      exact (congrArg Option.isSome this).trans rfl
    · have := World.frozen?_alloc_mark w.drew (bytesRow s cap) 5 (bytesRow s cap).size ((bytesRow s cap).size + 1) j
      refine this.trans ?_
      rw [Bool.and_eq_false_iff, decide_eq_false_iff_not]
      left
      rw [bytesRow_size s cap h]; omega
theorem LRow.alloc {W : World} {base g n cap : Nat} {L : List UInt8} (h : LRow W base g n cap L) (o : Obj) : LRow (W.alloc o) base g n cap L :=
  ⟨h.ge, by simp; have := h.lt; omega, h.le, h.max, h.len, fun i hi => (World.cell?_alloc_lt _ _ _ h.lt).trans (h.cells i hi), fun j h1 h2 => by
    have h3 := h.spare j h1 h2
    have e1 : (W.alloc o).cell? ⟨g, j, none⟩ = W.cell? ⟨g, j, none⟩ := World.cell?_alloc_lt _ _ _ h.lt
    have e2 : (W.alloc o).frozen? ⟨g, j, none⟩ = W.frozen? ⟨g, j, none⟩ := World.frozen?_alloc_past _ _ _ h.lt
    rw [e1, e2]; exact h3⟩
theorem lrow_of_own {W : World} {base g n cap : Nat} {L : List UInt8} (h : W.ownsRow base 5 1 (.slice (some ⟨g, 0, none⟩) n cap) n (bcs L)) (hl : L.length = n) : LRow W base g n cap L := by
  have h0 := h.lt g rfl
  have h1 := ownsRow_cap h
  refine ⟨h0.1, h0.2, h1.1, h1.2, hl, octets_own h hl, fun j _ h2 => ⟨?_, h.frozenAt j⟩⟩
  rcases h.2 with ⟨h', _⟩ | ⟨g', cap', cur, h', _, hh, _, _, hs, _⟩
  · simp at h'
  · simp only [Value.slice.injEq, Option.some.injEq, Addr.mk.injEq, and_true, true_and] at h'
    obtain ⟨rfl, rfl⟩ := h'
    rw [cell_of_row W g j cur _ _ hh, Array.getElem?_eq_getElem (by omega)]; rfl
/-- The rule. -/
theorem append_lrow {ops : Array Oper} {rest : List Oper} {o : Oper} {a : Act} {Q : Exit → Act → World → Prop} {w0 : World} (hgd : o.guard = none) (s x : Operand)
    (ho : o.op = .call { callee := .builtin .append, args := #[s, x], argTypes := #[52, 52] })
    {base g n cap : Nat} {L : List UInt8} (hs : a.eval s = .slice (some ⟨g, 0, none⟩) n cap) (hrow : LRow w0 base g n cap L) (hlen : n ≤ 70368744177664)
    (hx : a.eval x = .slice (some ⟨w0.heap.size, 0, none⟩) 1 1) (y : UInt8) {z : Int} (hz : z = (y.toNat : Int)) {M : List UInt8} (hM : M = L ++ [y])
    (h : ∀ g' cap' w', LRow w' base g' (n + 1) cap' M → Below base w0 w' → wpList Tryd.prog ops Q rest (a.put o.dst (.slice (some ⟨g', 0, none⟩) (n + 1) cap')) w') :
    wpList Tryd.prog ops Q (o :: rest) a (w0.alloc (.cells #[.int .u8 z] 5)) := by
  obtain ⟨i0, hi, hz0, hz1, hz2⟩ := info_parts Tryd.infoU8
  have hr := hrow.alloc (.cells #[.int .u8 z] 5)
  have hbw : base ≤ w0.heap.size := Nat.le_trans hrow.ge (Nat.le_of_lt hrow.lt)
  refine wpList_append_arg _ hgd s x 52 ho 5 i0 (.int .u8 0) 1 1 Tryd.underlying52 hi hz0 hz1 hz2 rfl (by decide) g 0 n cap (bcs L) hs (by simp [bcs, hrow.len]) ?_ ⟨w0.heap.size, 0, none⟩ 1 1 [.int .u8 z] hx rfl (cell_one_new _ _ _) (by simp [Value.oneCell']) ?_ (by unfold maxLen; omega) (by omega) ?_ ?_
  · intro j u hj
    have := octets_news hr.cells j u hj
    rwa [Go.WideShapes.add_plain] at this
  · intro hroom j hj
    simp only [List.length_cons, List.length_nil, Nat.lt_one_iff, Nat.zero_add] at hj
    subst hj
    have := hr.spare n (Nat.le_refl _) (by omega)
    simpa using this
  · intro hroom
    have hsp := hr.spare n (Nat.le_refl _) (by omega)
    obtain ⟨old, hold⟩ := Option.isSome_iff_exists.1 hsp.1
    have hset : (w0.alloc (.cells #[.int .u8 z] 5)).setCells g (0 + n * 1) [.int .u8 z] = (w0.alloc (.cells #[.int .u8 z] 5)).setCell ⟨g, n, none⟩ (.int .u8 z) := by
      rw [Nat.zero_add, Nat.mul_one]; rfl
    rw [hset]
    refine h g cap _ ⟨hr.ge, by simpa using hr.lt, hroom, hr.max, by rw [hM]; simp [hrow.len], ?_, ?_⟩ (((Below.refl _ _).alloc hbw _).setCell (p := ⟨g, n, none⟩) hr.ge _)
    · intro i hi
      rw [hM, List.length_append, hrow.len] at hi
      simp only [List.length_cons, List.length_nil] at hi
      rw [Nat.zero_add, hM]
      by_cases e : i = n
      · subst e
        rw [World.cell?_setCell_same _ _ _ hold, List.getD_eq_getElem?_getD, List.getElem?_append_right (by have := hrow.len; omega), hrow.len, Nat.sub_self, hz]; rfl
      · rw [World.cell?_setCell_other _ _ _ _ (by simp only [ne_eq, Addr.mk.injEq, true_and, and_true]; omega)]
        have := hr.cells i (by have := hrow.len; omega)
        rw [Nat.zero_add] at this
        rw [this, List.getD_eq_getElem?_getD, List.getD_eq_getElem?_getD, List.getElem?_append_left (by have := hrow.len; omega)]
    · intro j h1 h2
      have := hr.spare j (by omega) h2
      rw [World.cell?_setCell_other _ _ _ _ (by simp only [ne_eq, Addr.mk.injEq, true_and, and_true]; omega), World.frozen?_setCell]
      exact this
  · intro hgrow v' w' hown hgr
    obtain ⟨g', cap', rfl⟩ := ownsRow_succ hown
    have hb : bcs L ++ [Value.int .u8 z] = bcs M := by rw [hM, bcs_snoc, hz]
    rw [hb] at hown
    have hl := lrow_of_own hown (by rw [hM]; simp [hrow.len])
    have hbb : Below base w0 w' := ((Below.refl _ _).alloc hbw _).grown hgr (by simp; omega) (fun k hk => by cases hk)
    exact h g' cap' w' ⟨Nat.le_trans (by simp; omega) hl.ge, hl.lt, hl.le, hl.max, hl.len, hl.cells, hl.spare⟩ hbb
end Go.Proofs.YtkihcigojhcmgaaDoor

namespace Go.Proofs.YtkihcigojhcmgaaDoor
open Go.RowKit Go.Shelf

attribute [local go_sem] Oper.semAt_some

/-- slices.Chunk of bytes: an iterator over two variables of its own. -/
theorem chunk_any (p : Option Addr) (n c : Nat) (w : World) :
    Calls Tryd.prog 63 #[.slice p n c, .int .i64 64] w fun e w' => e = .returned (.func (.func 74) #[] #[.pointer (some ⟨w.heap.size, 0, none⟩), .pointer (some ⟨w.heap.size + 1, 0, none⟩)]) ∧ w' = (w.alloc (.cells #[.slice p n c] 52)).alloc (.cells #[.int .i64 64] 3) := by
  go_enter Tryd.func63, Tryd.ntmps63
  go_wp2_with fail
  go_ret
  exact ⟨rfl, rfl⟩

theorem cell_grown {W W' : World} {row : Option Nat} {a : Addr} {v : Value} (h : W.cell? a = some v) (hg : W.grownBy W' row) (hr : ∀ r, row = some r → ∃ o : Obj, W.heap[r]? = some o ∧ o.isCells = false) : W'.cell? a = some v := by
  refine hg.cell h fun e => ?_
  obtain ⟨o, ho, hc⟩ := cells_of_cell h
  obtain ⟨o', ho', hc'⟩ := hr a.block e.symm
  rw [ho] at ho'
  cases ho'
  rw [hc] at hc'
  cases hc'
/-- The words after some blocks. -/
def foldB (P : List UInt8) (l : List Nat) : List Nat := l.foldl (fun h k => block h ((P.drop (64 * k)).take 64)) shaH
theorem foldB_blocks (P : List UInt8) (n : Nat) : ∀ (h : List Nat) (k : Nat), (List.range' k n).foldl (fun h k => block h ((P.drop (64 * k)).take 64)) h = blocks n h (P.drop (64 * k)) := by
  induction n with
  | zero => intro h k; rfl
  | succ n ih =>
    intro h k
    rw [List.range'_succ, List.foldl_cons, ih, blocks, List.drop_drop, show 64 * k + 64 = 64 * (k + 1) by omega]
theorem foldB_range (P : List UInt8) (n : Nat) : foldB P (List.range n) = blocks n shaH P := by
  rw [foldB, List.range_eq_range', foldB_blocks]; simp
theorem foldB_snoc (P : List UInt8) (l : List Nat) (k : Nat) : foldB P (l ++ [k]) = block (foldB P l) ((P.drop (64 * k)).take 64) := by simp [foldB]
theorem foldB_ok (P : List UInt8) (l : List Nat) : (foldB P l).length = 8 ∧ ∀ i, (foldB P l).getD i 0 < 4294967296 := by
  rcases List.eq_nil_or_concat l with rfl | ⟨l, k, rfl⟩
  · exact ⟨rfl, shaH_lt⟩
  · rw [List.concat_eq_append, foldB_snoc]; exact ⟨block_length _ _, block_lt _ _⟩

set_option maxRecDepth 100000 in
set_option maxHeartbeats 2000000 in
theorem digSum_any (s : ByteArray) (w : World) (hs : s.size ≤ 1000000) (hR : RoundAt w) (hgl : 0 < w.heap.size) :
    Calls Tryd.prog 49 #[.string s] w fun e w' => e = .returned (.string ⟨(sha s.data.toList).toArray⟩) ∧ Below w.heap.size w w' := by
  have hsh : sha s.data.toList = outW (blocks ((pad s.data.toList).length / 64) shaH (pad s.data.toList)) := rfl
  have HSH := Lib.hid hsh
  have hpad : pad s.data.toList = s.data.toList ++ 128 :: (List.replicate ((119 - s.size % 64) % 64) 0 ++ be8 (8 * s.size)) := rfl
  have HPAD := Lib.hid hpad
  have HR := Lib.hid hR
  clear hsh hpad hR
  refine (callsIn_wide (n := 5)).1 (callsIn_of_wp_marks Tryd.func49 rfl trivial ?_ rfl)
  simp only [Tryd.ntmps49, List.size_toArray, List.length_cons, List.length_nil, Nat.reduceAdd, Nat.reduceSub, Array.replicate_succ, Array.replicate_zero, List.push_toArray, List.append_toArray, List.nil_append, List.cons_append]
  refine wpIn_wide.2 ?_
  go_upto_region 2 with fail
  generalize hw1 : w.alloc _ = w1
  have hh1 : w1.ownsRow w.heap.size 111 1 (.slice (some ⟨w.heap.size, 0, none⟩) 8 8) 8 (ucs shaH) := by
    rw [← hw1]
    exact ownsRow_of_block (heap_alloc_new w _) (Nat.le_refl _) rfl (by unfold maxLen; omega)
  have hb1 : Below w.heap.size w w1 := by rw [← hw1]; exact (Below.refl _ _).alloc (Nat.le_refl _) _
  have hz1 : w1.heap.size = w.heap.size + 1 := by rw [← hw1]; simp
  clear hw1
  have hcv := run_bytes_of_string (P := Tryd.prog) w1 9 52 5 s Tryd.underlying9 Tryd.underlying52 Tryd.underlying5
  have hc0 := grownCap_ge w1 s.size 0 5
  have hc1 := grownCap_le_maxLen w1 s.size 0 5 (by unfold maxLen; omega)
  generalize grownCap w1 s.size 0 5 = c1 at *
  have hrow2 := lrow_new w1 s c1 hc0 hc1
  have hb2 : Below w1.heap.size w1 (w1.drew.alloc (.cells (bytesRow s c1) 5 ((bytesRow s c1).size, (bytesRow s c1).size + 1))) := ((Below.refl _ _).drew).alloc (by simp) _
  generalize w1.drew.alloc (.cells (bytesRow s c1) 5 ((bytesRow s c1).size, (bytesRow s c1).size + 1)) = w2 at *
  obtain ⟨S, hS⟩ : ∃ S, S = s.data.toList := ⟨_, rfl⟩
  rw [← hS] at hrow2 HPAD HSH
  have hSl : S.length = s.size := by rw [hS]; simp
  have HSl := Lib.hid hSl
  have HS := Lib.hid hS
  have HH1 := Lib.hid hh1
  have HZ1 := Lib.hid hz1
  have hbs2 := hb2.size
  clear hS hSl hc0 hc1 hh1 hz1
  obtain ⟨M, hM⟩ : ∃ M, M = S ++ [(128 : UInt8)] := ⟨_, rfl⟩
  have hsz : s.size ≤ 70368744177664 := by omega
  have HM := Lib.hid hM
  clear hM
  go_wp2_with (at_builtin; refine append_lrow rfl _ _ rfl rfl hrow2 hsz rfl 128 rfl HM.out ?_; intro g cap w3 hrow3 hb3)
  have hb13 : Below w1.heap.size w1 w3 := hb2.trans hb3
  clear hrow2 hcv hb2 hb3 hbs2
  obtain ⟨Z, hZ⟩ : ∃ Z, Z = (119 - s.size % 64) % 64 := ⟨_, rfl⟩
  rw [← hZ] at HPAD
  go_loopw [4] (fun v wr => ∃ (m g cap : Nat), m ≤ Z ∧ v = .slice (some ⟨g, 0, none⟩) (s.size + 1 + m) cap ∧ LRow wr w1.heap.size g (s.size + 1 + m) cap (S ++ 128 :: List.replicate m 0) ∧ Below w1.heap.size w1 wr) (fun v _ => Z - (sliceLen v - s.size - 1))
  case atStart => exact ⟨0, g, cap, by omega, rfl, by rw [HM.out] at hrow3; exact hrow3, hb13⟩
  case round =>
    clear hrow3 hb13
    obtain ⟨m, g, cap, hm, rfl, hrow, hb⟩ := hrel
    have hbs := hb.size
    by_cases hlt : m < Z
    · have hrep : S ++ 128 :: List.replicate (m + 1) 0 = (S ++ 128 :: List.replicate m 0) ++ [0] := by
        rw [List.append_assoc, List.cons_append, ← List.replicate_succ']
      have HREP := Lib.hid hrep
      clear hrep
      have ht : (((s.size : Int) + 1 + (m : Int)) % 64 != 56) = true := by
        rw [bne_iff_ne]; omega
      have hsz2 : s.size + 1 + m ≤ 70368744177664 := by omega
      go_wp2_with (at_builtin; refine append_lrow rfl _ _ rfl rfl hrow hsz2 rfl 0 rfl HREP.out ?_; intro g' cap' w4 hrow1 hb1)
      exact ⟨⟨m + 1, g', cap', by omega, rfl, hrow1, hb.trans hb1⟩, by simp only [sliceLen]; omega⟩
    · have hmz : m = Z := by omega
      have ht : (((s.size : Int) + 1 + (m : Int)) % 64 != 56) = false := by
        rw [bne_eq_false_iff_eq]; omega
      rw [← hmz] at HPAD
      have hmz64 : m < 64 := by omega
      have hlen8 : (s.size + 1 + m) % 64 = 56 := by omega
      have HLEN := Lib.hid hlen8
      clear hlt hmz hm hZ hlen8
      obtain ⟨N, hN⟩ : ∃ N, N = 8 * s.size := ⟨_, rfl⟩
      rw [← hN] at HPAD
      have hNi : 8 * (s.size : Int) = (N : Int) := by omega
      have hNb : N ≤ 8000000 := by omega
      clear hN
      go_wp2
      go_loopw [4, 5] (fun v i wr => ∃ (r g cap : Nat) (z : Int), r ≤ 8 ∧ z = (r : Int) - 1 ∧ i = .int .i64 z ∧ v = .slice (some ⟨g, 0, none⟩) (s.size + 1 + m + (8 - r)) cap ∧ LRow wr w1.heap.size g (s.size + 1 + m + (8 - r)) cap (S ++ 128 :: (List.replicate m 0 ++ (be8 N).take (8 - r))) ∧ Below w1.heap.size w1 wr) (fun _ i _ => (intOf i + 1).toNat)
      case atStart => exact ⟨8, g, cap, 7, by omega, by omega, rfl, rfl, by simpa using hrow, hb⟩
      case round =>
        clear hrow hb hbs
        obtain ⟨r, g, cap, z, hr, hz, rfl, rfl, hrow, hb⟩ := hrel
        have hbs := hb.size
        rcases r with _ | k
        · have hd : decide (0 ≤ z) = false := by rw [decide_eq_false_iff_not]; omega
          have hfin : S ++ 128 :: (List.replicate m 0 ++ (be8 N).take (8 - 0)) = pad S := by
            rw [HPAD.out, Nat.sub_zero, List.take_of_length_le (by rw [be8_length]; omega)]
          rw [hfin] at hrow
          obtain ⟨P, hP⟩ : ∃ P, P = pad S := ⟨_, rfl⟩
          rw [← hP] at hrow HSH
          obtain ⟨pl, hpl⟩ : ∃ pl, pl = s.size + 1 + m + (8 - 0) := ⟨_, rfl⟩
          rw [← hpl] at hrow ⊢
          obtain ⟨K, hK⟩ : ∃ K, pl = 64 * K := ⟨pl / 64, by have := HLEN.out; omega⟩
          have hplb : pl ≤ 1000200 := by omega
          have hPl := hrow.len
          have HK := Lib.hid hK
          have HP := Lib.hid hP
          clear hz hNi hfin hpl hP hK
          go_wp2_with fail
          refine (chunk_any _ _ _ _).mono ?_
          rintro e w5 ⟨rfl, rfl⟩
          go_wp2_with fail
          have hbw5 : Below w.heap.size w ((wr.alloc (.cells #[.slice (some ⟨g, 0, none⟩) pl cap] 52)).alloc (.cells #[.int .i64 64] 3)) :=
            ((hb1.trans (hb.mono hb1.size)).alloc (Nat.le_trans hb1.size hbs) _).alloc (by have := Nat.le_trans hb1.size hbs; simp; omega) _
          have hh5 : ((wr.alloc (.cells #[.slice (some ⟨g, 0, none⟩) pl cap] 52)).alloc (.cells #[.int .i64 64] 3)).ownsRow w.heap.size 111 1 (.slice (some ⟨w.heap.size, 0, none⟩) 8 8) 8 (ucs shaH) := by
            refine World.ownsRow.alloc (World.ownsRow.alloc ?_ _) _
            have h := ownsRow_whole HH1.out
            rw [← hb.block w.heap.size (by rw [HZ1.out]; omega)] at h
            exact ownsRow_of_block h (Nat.le_refl _) rfl (by unfold maxLen; omega)
          have ho5 : Octets ((wr.alloc (.cells #[.slice (some ⟨g, 0, none⟩) pl cap] 52)).alloc (.cells #[.int .i64 64] 3)) g 0 P := ((hrow.alloc _).alloc _).cells
          have hcb5 : ((wr.alloc (.cells #[.slice (some ⟨g, 0, none⟩) pl cap] 52)).alloc (.cells #[.int .i64 64] 3)).cell? ⟨wr.heap.size, 0, none⟩ = some (.slice (some ⟨g, 0, none⟩) pl cap) :=
            (World.cell?_alloc_lt _ _ _ (by simp)).trans (World.cell?_alloc_mark wr #[_] 52 (0, 0) 0)
          have hcc5 : ((wr.alloc (.cells #[.slice (some ⟨g, 0, none⟩) pl cap] 52)).alloc (.cells #[.int .i64 64] 3)).cell? ⟨wr.heap.size + 1, 0, none⟩ = some (.int .i64 64) := by
            have h := World.cell?_alloc_mark (wr.alloc (.cells #[.slice (some ⟨g, 0, none⟩) pl cap] 52)) #[.int .i64 64] 3 (0, 0) 0
            rwa [World.size_alloc] at h
          have hz5 : ((wr.alloc (.cells #[.slice (some ⟨g, 0, none⟩) pl cap] 52)).alloc (.cells #[.int .i64 64] 3)).heap.size = wr.heap.size + 2 := by simp
          generalize (wr.alloc (.cells #[.slice (some ⟨g, 0, none⟩) pl cap] 52)).alloc (.cells #[.int .i64 64] 3) = w5 at *
          obtain ⟨bb, hbb⟩ : ∃ bb, bb = wr.heap.size := ⟨_, rfl⟩
          rw [← hbb] at hcb5 hcc5 hz5 ⊢
          have hbbl : w.heap.size < bb := by rw [hbb]; have := HZ1.out; omega
          have hgb : w1.heap.size ≤ g := hrow.ge
          have hgw : w.heap.size < g := by have := HZ1.out; omega
          have hcl := hrow.le
          have hcm := hrow.max
          unfold maxLen at hcm
          refine (wpIn_wide (n := 5)).1 ?_
          refine wpIn_range (F := Fence.wide) (n := 5) rfl (by omega) (gf := 74) (lb := #[.pointer (some ⟨bb, 0, none⟩), .pointer (some ⟨bb + 1, 0, none⟩)]) rfl trivial (enters_of Tryd.func74 (by kernel_rfl) rfl)
            (chunk1_in 4 (by omega) bb (bb + 1) g pl cap K HK.out hcl (by omega)) Draws.cells ?pre ?kt ?kb (fun _ => rfl)
            (fun pre W => W.ownsRow w.heap.size 111 1 (.slice (some ⟨w.heap.size, 0, none⟩) 8 8) 8 (ucs (foldB P (pre.map Fin.val))) ∧ Octets W g 0 P ∧ (W.cell? ⟨bb, 0, none⟩ = some (.slice (some ⟨g, 0, none⟩) pl cap) ∧ W.cell? ⟨bb + 1, 0, none⟩ = some (.int .i64 64)) ∧ Below w.heap.size w W)
            (fun _ _ _ => False) ?own ?ownx ?wr ?wrx ?start ?round ?done ?stop
          case pre =>
            intro W hW
            exact ⟨(hW.cell (p := ⟨bb, 0, none⟩) (by simp; omega)).trans hcb5, (hW.cell (p := ⟨bb + 1, 0, none⟩) (by simp; omega)).trans hcc5⟩
          case kt =>
            intro X Y Z h k
            exact ⟨k.1.trans h.1, k.2.trans h.2⟩
          case kb =>
            intro W l o o' hl ho hc
            exact ⟨World.cell?_of_block (World.putObj_heap_other (show bb ≠ l by omega)), World.cell?_of_block (World.putObj_heap_other (show bb + 1 ≠ l by omega))⟩
          case own =>
            intro pre X Y row hI hg hr
            obtain ⟨i1, i2, ⟨i3, i4⟩, i5⟩ := hI
            have hr' : ∀ r, row = some r → ∃ o : Obj, X.heap[r]? = some o ∧ o.isCells = false := fun r e => (hr r e).2
            refine ⟨i1.kept hg (.inr fun e => ?_), fun i hi => cell_grown (i2 i hi) hg hr', ⟨cell_grown i3 hg hr', cell_grown i4 hg hr'⟩, i5.grown hg (Nat.le_trans (Nat.le_refl _) i5.size) (fun k e => Nat.le_trans (by have := hbw5.size; omega) (hr k e).1)⟩
            have := (hr w.heap.size e.symm).1
            omega
          case ownx => exact fun _ _ _ _ _ hs _ _ => hs
          case wr =>
            rintro pre X Y ⟨i1, i2, ⟨i3, i4⟩, i5⟩ ⟨q, rfl⟩
            have e0 : ∀ (q : Nat) (p : Addr), (X.drewN q).cell? p = X.cell? p := fun q p => by simp
            exact ⟨i1, fun i hi => by rw [e0]; exact i2 i hi, ⟨by rw [e0]; exact i3, by rw [e0]; exact i4⟩, below_drewN i5 q⟩
          case wrx => exact fun _ _ _ _ hs _ => hs
          case start => exact ⟨hh5, ho5, ⟨hcb5, hcc5⟩, hbw5⟩
          case round =>
            rintro l pre x W hI hlen
            gi_wp2
            refine ⟨KeepsFrom.refl _ _, ⟨rfl, rfl⟩, hI, ?_⟩
            clear hI
            rintro V hvc hvf hvs ⟨i1, i2, ⟨i3, i4⟩, i5⟩
            clear hvc hvf hvs
            have hx := x.isLt
            have hpk := HK.out
            have hpart := i2.part (64 * x.val) 64
            rw [Nat.zero_add] at hpart
            have hplen : ((P.drop (64 * x.val)).take 64).length = 64 := by rw [List.length_take, List.length_drop, hPl]; omega
            have hfo := foldB_ok P (pre.map Fin.val)
            have hsn : foldB P ((pre ++ [x]).map Fin.val) = block (foldB P (pre.map Fin.val)) ((P.drop (64 * x.val)).take 64) := by
              rw [List.map_append]; exact foldB_snoc _ _ _
            obtain ⟨Hf, hHf⟩ : ∃ Hf, Hf = foldB P (pre.map Fin.val) := ⟨_, rfl⟩
            rw [← hHf] at i1 hfo hsn
            have hgV : g < V.heap.size := by
              have h := i2 0 (by rw [hPl]; omega)
              exact World.block_lt_of_cell? _ _ h
            have hRV : RoundAt V := fun i hi => (i5.cell (p := ⟨0, i, none⟩) hgl).trans (HR.out i hi)
            have hbbV : bb + 1 < V.heap.size := World.block_lt_of_cell? _ _ i4
            have hadd := (callsIn_wide (n := 2)).2 (add_any Hf _ w.heap.size w.heap.size g (64 * x.val) 64 V hfo.1 hplen hfo.2 i1 hpart hgV hRV (Nat.lt_of_lt_of_le hgl i5.size))
            have hADD := Lib.hid (hadd.inRound l)
            have HSN := Lib.hid hsn
            have HI2 := Lib.hid i2
            clear hadd hsn hfo hpart hplen hHf i1 i2 hpk hRV
            gi_wp2_with fail
            refine ⟨trivial, ?_⟩
            refine hADD.out.mono ?_
            rintro e W' ⟨⟨v, rfl⟩, hr', hg'⟩
            have hz' := hg'.size
            have k3 : W'.cell? ⟨bb, 0, none⟩ = V.cell? ⟨bb, 0, none⟩ := hg'.cell_far ⟨bb, 0, none⟩ (show bb < V.heap.size by omega) (by simp only [ne_eq, Option.some.injEq]; omega)
            have k4 : W'.cell? ⟨bb + 1, 0, none⟩ = V.cell? ⟨bb + 1, 0, none⟩ := hg'.cell_far ⟨bb + 1, 0, none⟩ hbbV (by simp only [ne_eq, Option.some.injEq]; omega)
            have hgne : ∀ i, W'.cell? ⟨g, i, none⟩ = V.cell? ⟨g, i, none⟩ := fun i => hg'.cell_far ⟨g, i, none⟩ hgV (by simp only [ne_eq, Option.some.injEq]; omega)
            have hkf : KeepsFrom w5.heap.size V W' := ⟨hz', fun k o hk h0 ho => (hg'.block k (Array.getElem?_eq_some_iff.1 h0).1 (by simp only [ne_eq, Option.some.injEq]; omega)).trans h0⟩
            have HGN := Lib.hid hgne
            clear hgne
            gi_wp2_with fail
            exact ⟨hkf, ⟨k3, k4⟩, by rw [HSN.out]; exact hr', fun i hi => (HGN.out _).trans (HI2.out i hi), ⟨k3.trans i3, k4.trans i4⟩, i5.grown hg' i5.size (fun k e => by cases e; exact Nat.le_refl _)⟩
          case done =>
            rintro D ys W hD hys ⟨i1, i2, ⟨i3, i4⟩, i5⟩ hKd
            have hend : sha s.data.toList = outW (foldB P (ys.map Fin.val)) := by
              rw [← HS.out, HSH.out, hys, foldB_range, hPl, show pl / 64 = K by have := HK.out; omega]
            obtain ⟨Hf, hHf⟩ : ∃ Hf, Hf = foldB P (ys.map Fin.val) := ⟨_, rfl⟩
            have hfo := (foldB_ok P (ys.map Fin.val)).1
            rw [← hHf] at i1 hend hfo
            have hhW := ownsRow_whole i1
            have hsz8 : (Tryd.prog.info? 111).map (·.size) = some (ucs Hf).toArray.size := by rw [sizeOf111]; simp [ucs, hfo]
            have HHW := Lib.hid hhW
            have HSZ := Lib.hid hsz8
            have HFO := Lib.hid hfo
            have HEND := Lib.hid hend
            have HKD := Lib.hid hKd
            clear hhW hsz8 hfo hend hKd i1 i2 i3 i4 hHf hys
            go_wp2_with (refine wpList_load_row (by rfl) 111 (.tmp 3) (by rfl) w.heap.size (by rfl) _ _ (0, 0) _ HHW.out Tryd.underlying111 rfl HSZ.out ?_)
            refine (digest_any Hf W HFO.out).mono ?_
            rintro e w8 ⟨rfl, hb8⟩
            have hDl : D < W.heap.size := (Array.getElem?_eq_some_iff.1 HKD.out).1
            have hK8 := (hb8.block D hDl).trans HKD.out
            have hB8 := i5.trans (hb8.mono i5.size)
            have HK8 := Lib.hid hK8
            clear hK8
            go_wp2_with fail
            refine ⟨by simp, .inl ⟨_, _, rfl, run_takeDeferred HK8.out, ?_⟩⟩
            refine ⟨_, results_tmp rfl _ _ _, ?_, hB8.trans (belowK_b (w := w) (Nat.le_refl _) w8 D _ _ (by have := hbw5.size; omega) HK8.out rfl rfl)⟩
            rw [HEND.out]; rfl
          case stop =>
            rintro D c pre W _ _ h _
            exact h.elim
        · obtain rfl : z = (k : Int) := by omega
          have hd : decide (0 ≤ (k : Int)) = true := by rw [decide_eq_true_iff]; omega
          have htake := be8_take N k (by omega)
          have HTK : S ++ 128 :: (List.replicate m 0 ++ (be8 N).take (8 - k)) = (S ++ 128 :: (List.replicate m 0 ++ (be8 N).take (8 - (k + 1)))) ++ [UInt8.ofNat (N / 256 ^ k % 256)] := by
            rw [htake]; simp
          obtain ⟨q, hq⟩ : ∃ q, s.size + 1 + m + (8 - (k + 1)) = q := ⟨_, rfl⟩
          rw [hq] at hrow ⊢
          have hqb : q ≤ 70368744177664 := by omega
          have HT := Lib.hid HTK
          have HQ := Lib.hid hq
          clear htake HTK hq hz
          have hzz := be8_cast N k
          have HZZ := Lib.hid hzz
          clear hzz
          go_wp2_with (at_builtin; refine append_lrow rfl _ _ rfl rfl hrow hqb rfl _ HZZ.out HT.out ?_; intro g' cap' w6 hrow1 hb1)
          go_roundw
          case rel => exact ⟨k, g', cap', _, by omega, rfl, rfl, by rw [← HQ.out, show 8 - k = 8 - (k + 1) + 1 by omega]; rfl, by rw [← HQ.out] at hrow1; rw [show s.size + 1 + m + (8 - k) = s.size + 1 + m + (8 - (k + 1)) + 1 by omega]; exact hrow1, hb.trans hb1⟩
          case measure => simp [intOf]
end Go.Proofs.YtkihcigojhcmgaaDoor
