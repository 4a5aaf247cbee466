/- A law for a loop that ranges over a function value whose iterator may write cells of its own (a captured counter) between two rounds. No condition; nothing of a program. -/
import Derived.RangeFuncNested
import Derived.RangeFuncBound
import Derived.RangeFuncCalls
import Derived.RangeFuncLeaves
import Derived.RangeFuncBox
namespace Go.Proofs.YteffhohemodckaaDoor
open Go.RowKit

variable {F : Fence} {n : Nat} {P : Program}

/-- An iterator value: what it hands to the rounds and what it may turn. Wr: one own step of it on the world. Kp: what it asks of a round that goes on. Pre: what it asks of the world in which it is called. -/
def Iter {α : Type} (F : Fence) (n : Nat) (P : Program) (g : Nat) (lb : Array Value) (encs : α → Array Value) (Wr Kp : World → World → Prop) (S Sp : List α → Prop) (N : Nat) (Pre : World → Prop) : Prop :=
  ∀ (l : Nat) (J Jx : List α → World → Prop) (W : World), Pre W →
    (∀ s A B, J s A → Wr A B → J s B) → (∀ s A B, Jx s A → Wr A B → Jx s B) →
    (∀ pre x W1, J pre W1 → pre.length < N → YieldAt F (n - 1) P l (encs x) W1 fun e W' =>
      (e = .returned (.bool true) ∧ J (pre ++ [x]) W' ∧ Kp W1 W') ∨ (e = .returned (.bool false) ∧ Jx (pre ++ [x]) W')) →
    J [] W →
    CallsIn F n P g (#[.func (.yield l) #[] #[]] ++ lb) W fun e W' => (∃ v, e = .returned v) ∧ ((∃ xs, S xs ∧ J xs W') ∨ (∃ pre, Sp pre ∧ Jx pre W'))

/-- An own step turns cells alone. -/
def CellsAlone (Wr : World → World → Prop) : Prop := ∀ (A B : World) (k : Nat) (o : Obj), Wr A B → A.heap[k]? = some o → o.isCells = false → B.heap[k]? = some o

theorem wpIn_range {α : Type} {g : Operand} {ps : Array Tmp} {assign body : Code} {Q : Exit → Act → World → Prop} {a : Act} {w : World}
    (hro : F.round = none) (h1 : 1 ≤ n) {gf : Nat} {lb : Array Value} (hg : a.eval g = .func (.func gf) #[] lb) (hFg : F.fn gf) (eg : ∀ args w, (callFunc gf args).run P w = .ok (.enter gf args) w)
    {encs : α → Array Value} {Wr Kp : World → World → Prop} {S Sp : List α → Prop} {N : Nat} {Pre : World → Prop} (hit : Iter F (n - 1) P gf lb encs Wr Kp S Sp N Pre)
    (hWr : CellsAlone Wr) (hpre : ∀ W, Below w.heap.size w W → Pre W)
    (hKt : ∀ {A B C : World}, Kp A B → Kp B C → Kp A C) (hKb : ∀ (W : World) (l : Nat) (o o' : Obj), w.heap.size ≤ l → W.heap[l]? = some o → o.isCells = false → Kp W (W.putObj l o'))
    (hps : ∀ x, (encs x).size = ps.size)
    (I : List α → World → Prop) (Ix : Code → List α → World → Prop) (hI : OwnFrom w.heap.size I) (hIx : ∀ c, OwnFrom w.heap.size (Ix c))
    (hIW : ∀ s A B, I s A → Wr A B → I s B) (hIxW : ∀ c s A B, Ix c s A → Wr A B → Ix c s B) (h0 : I [] w)
    (hround : ∀ (l : Nat) (pre : List α) (x : α) (W : World), I pre W → pre.length < N →
      assign.wpIn (F.inRound l) (n - 1 - 1) P (Exit.then (fun a₁ W₁ => KeepsFrom w.heap.size W W₁ ∧ Kp W W₁ ∧ I pre W₁ ∧
          ∀ V, (∀ p, V.cell? p = W₁.cell? p) → (∀ p, V.frozen? p = W₁.frozen? p) → V.heap.size = W₁.heap.size → I pre V →
            body.wpIn (F.inRound l) (n - 1 - 1) P (ownPostG w.heap.size Kp I Ix (pre ++ [x]) V) a₁ V) (fun _ _ _ => False))
        { tmps := (ps.zip (encs x)).foldl (fun t (p, v) => t.setIfInBounds p v) a.tmps, defers := [] } W)
    (hdone : ∀ (D : Nat) (xs : List α) (W : World), w.heap.size ≤ D → S xs → I xs W → W.heap[D]? = some (.deferred (some [])) → Q .normal { a with defers := { target := .collected D, args := #[] } :: a.defers } W)
    (hstop : ∀ (D : Nat) (c : Code) (pre : List α) (W : World), w.heap.size ≤ D → Sp pre → Ix c pre W → W.heap[D]? = some (.deferred (some [])) → c.wpIn F n P Q { a with defers := { target := .collected D, args := #[] } :: a.defers } W) :
    (Code.rangeFunc g ps assign body).wpIn F n P Q a w := by
  refine wpIn_rangeFunc ?_
  intro fn hfn
  rw [hro]
  obtain ⟨mk, hmk⟩ : ∃ mk : LoopState → Option Code → Loop, mk = fun st pe => { state := st, pending := pe, fn, tmps := a.tmps, params := ps, assign, body, defers := w.heap.size } := ⟨_, rfl⟩
  generalize hD : w.heap.size = D at *
  obtain ⟨W1, hW1⟩ : ∃ W1, (w.alloc (.deferred (some []))).alloc (.loop (mk .ready none)) = W1 := ⟨_, rfl⟩
  have hloop : W1.heap[D + 1]? = some (.loop (mk .ready none)) := by
    rw [← hW1, ← hD]; have := World.alloc_heap_new (w.alloc (.deferred (some []))) (.loop (mk .ready none)); rwa [World.size_alloc] at this
  have hdef : W1.heap[D]? = some (.deferred (some [])) := by
    rw [← hW1, ← hD]; exact (Below.heap_alloc _ _ _ (by simp)).trans (World.alloc_heap_new w _)
  have hbel : Below D w W1 := by
    rw [← hW1]; exact ((Below.refl _ w).alloc (by omega) _).alloc (by simp; omega) _
  have hstart : I [] W1 := by rw [← hW1]; exact hI.alloc _ (hI.alloc _ h0)
  refine ⟨D + 1, [{ target := .collected D, args := #[] }], W1, { target := .fn (.func gf) lb, args := #[.func (.yield (D + 1)) #[] #[]] }, W1, gf,
    #[.func (.yield (D + 1)) #[] #[]] ++ lb, W1, ?_, ?_, ?_, ?_, fun _ => h1, ?_⟩
  · rw [← hW1, hmk, ← hD]; exact run_enterLoop_outer _ _ _ _ _
  · simp only [resolve, hg]
    simp [go_sem]
  · intro f' hf'; simp [Target.leads] at hf'; subst hf'; exact hFg
  · simp [invoke, go_sem, eg]
  have after : ∀ (jump : Option Code) (st : LoopState) (pe : Option Code) (V : World), V.heap[D + 1]? = some (.loop (mk st pe)) → V.heap[D]? = some (.deferred (some [])) →
      (Instr.endRound (D + 1) jump).run P V = .ok (.bool jump.isNone) (V.putObj (D + 1) (.loop (mk (if jump.isNone then .ready else .done) jump))) ∧
      (V.putObj (D + 1) (.loop (mk (if jump.isNone then .ready else .done) jump))).heap[D + 1]? = some (.loop (mk (if jump.isNone then .ready else .done) jump)) ∧
      (V.putObj (D + 1) (.loop (mk (if jump.isNone then .ready else .done) jump))).heap[D]? = some (.deferred (some [])) := fun jump st pe V hl hk => by
    have hr := run_endRound (P := P) jump hl
    rw [hmk] at hr ⊢
    exact ⟨hr, World.putObj_heap_same (Array.getElem?_eq_some_iff.1 hl).1, (World.putObj_heap_other (by omega)).trans hk⟩
  refine (hit (D + 1)
    (fun pre W => I pre W ∧ W.heap[D + 1]? = some (.loop (mk .ready none)) ∧ W.heap[D]? = some (.deferred (some [])))
    (fun pre W => ∃ c, Ix c pre W ∧ W.heap[D + 1]? = some (.loop (mk .done (some c))) ∧ W.heap[D]? = some (.deferred (some [])))
    W1 (hpre _ hbel)
    (fun s A B hs hw => ⟨hIW s A B hs.1 hw, hWr A B _ _ hw hs.2.1 rfl, hWr A B _ _ hw hs.2.2 rfl⟩)
    (fun s A B hs hw => by
      obtain ⟨c, hc, hl, hk⟩ := hs
      exact ⟨c, hIxW c s A B hc hw, hWr A B _ _ hw hl rfl, hWr A B _ _ hw hk rfl⟩)
    ?_ ⟨hstart, hloop, hdef⟩).mono ?_
  · rintro pre x W ⟨hi, hl, hk⟩ hlen
    have hy := run_yield (P := P) (args := encs x) hl (by rw [hmk]; exact hps x)
    rw [hmk] at hy
    refine ⟨fn, _, assign, body, hy, roundIn_of_wpIn hfn (wpIn_mono (hround _ pre x W hi hlen) ?_)⟩
    rintro e a₁ W₁ hp
    cases e with
    | exit id => exact hp.elim
    | goto t => exact hp.elim
    | ret => exact hp.elim
    | panic chain => exact hp.elim
    | outgrown => exact hp.elim
    | normal =>
    obtain ⟨hk1, hkp1, hi1, hb⟩ := hp
    have hl1 := hk1.same _ _ (by omega) hl rfl
    have hd1 := hk1.same _ _ (Nat.le_refl _) hk rfl
    have hlt : D + 1 < W₁.heap.size := (Array.getElem?_eq_some_iff.1 hl1).1
    obtain ⟨V, hV⟩ : ∃ V, W₁.putObj (D + 1) (.loop (mk .busy none)) = V := ⟨_, rfl⟩
    have hrun : (Instr.beginRound (D + 1)).run P W₁ = .ok () V := by
      have := run_beginRound (P := P) hl1 (by rw [hmk]); rw [hmk] at this; rw [this, ← hV, hmk]
    refine ⟨V, hrun, ?_⟩
    have hl2 : V.heap[D + 1]? = some (.loop (mk .busy none)) := by rw [← hV]; exact World.putObj_heap_same hlt
    have hk2 : V.heap[D]? = some (.deferred (some [])) := by rw [← hV]; exact (World.putObj_heap_other (by omega)).trans hd1
    have hKV : Kp W V := by rw [← hV]; exact hKt hkp1 (hKb _ _ _ _ (by omega) hl1 rfl)
    have hIV : I pre V := by rw [← hV]; exact hI.putObj _ hi1 (by omega) hl1 rfl
    have hcell : ∀ p, V.cell? p = W₁.cell? p := fun p => by
      by_cases e : p.block = D + 1
      · simp only [World.cell?, e, hl2, hl1]
      · exact World.cell?_of_block (by rw [← hV]; exact World.putObj_heap_other e)
    have hfro : ∀ p, V.frozen? p = W₁.frozen? p := fun p => by
      by_cases e : p.block = D + 1
      · simp only [World.frozen?, e, hl2, hl1]
      · exact World.frozen?_of_block (by rw [← hV]; exact World.putObj_heap_other e)
    refine wpIn_mono (hb V hcell hfro (by rw [← hV]; simp) hIV) ?_
    rintro e a3 W3 hp
    cases e with
    | normal =>
      obtain ⟨hk3, hkp, hi3⟩ := hp
      obtain ⟨hr, hl4, hk4⟩ := after none _ _ W3 (hk3.same _ _ (by omega) hl2 rfl) (hk3.same _ _ (Nat.le_refl _) hk2 rfl)
      exact ⟨_, _, hr, .inl ⟨rfl, ⟨hI.putObj _ hi3 (by omega) (hk3.same _ _ (by omega) hl2 rfl) rfl, hl4, hk4⟩, hKt (hKt hKV hkp) (hKb _ _ _ _ (by omega) (hk3.same _ _ (by omega) hl2 rfl) rfl)⟩⟩
    | ret =>
      obtain ⟨hk3, hi3⟩ := hp
      obtain ⟨hr, hl4, hk4⟩ := after (some .ret) _ _ W3 (hk3.same _ _ (by omega) hl2 rfl) (hk3.same _ _ (Nat.le_refl _) hk2 rfl)
      exact ⟨_, _, hr, .inr ⟨rfl, .ret, (hIx _).putObj _ hi3 (by omega) (hk3.same _ _ (by omega) hl2 rfl) rfl, hl4, hk4⟩⟩
    | exit id =>
      obtain ⟨hk3, hi3⟩ := hp
      obtain ⟨hr, hl4, hk4⟩ := after (some (.exit id)) _ _ W3 (hk3.same _ _ (by omega) hl2 rfl) (hk3.same _ _ (Nat.le_refl _) hk2 rfl)
      exact ⟨_, _, hr, .inr ⟨rfl, .exit id, (hIx _).putObj _ hi3 (by omega) (hk3.same _ _ (by omega) hl2 rfl) rfl, hl4, hk4⟩⟩
    | goto t =>
      obtain ⟨hk3, hi3⟩ := hp
      obtain ⟨hr, hl4, hk4⟩ := after (some (.goto t)) _ _ W3 (hk3.same _ _ (by omega) hl2 rfl) (hk3.same _ _ (Nat.le_refl _) hk2 rfl)
      exact ⟨_, _, hr, .inr ⟨rfl, .goto t, (hIx _).putObj _ hi3 (by omega) (hk3.same _ _ (by omega) hl2 rfl) rfl, hl4, hk4⟩⟩
    | panic ch => exact hp.elim
    | outgrown => exact hp.elim
  · rintro e W2 ⟨⟨v, rfl⟩, (⟨xs, hS, hi, hl, hk⟩ | ⟨pre, hSp, c, hi, hl, hk⟩)⟩
    · have hend := run_endLoop (P := P) hl (by rw [hmk]; simp)
      rw [hmk] at hend hl
      exact ⟨none, _, hend, hdone D xs _ (Nat.le_refl _) hS (hI.putObj _ hi (by omega) hl rfl) ((World.putObj_heap_other (by omega)).trans hk)⟩
    · have hend := run_endLoop (P := P) hl (by rw [hmk]; simp)
      rw [hmk] at hend hl
      exact ⟨some c, _, hend, hstop D c pre _ (Nat.le_refl _) hSp ((hIx c).putObj _ hi (by omega) hl rfl) ((World.putObj_heap_other (by omega)).trans hk)⟩
end Go.Proofs.YteffhohemodckaaDoor
