/- A law for a loop that ranges over a function value whose iterator may write cells of its own (a captured counter) between two rounds. No condition; nothing of a program. What holds of the computer between two operations. -/
import Derived.RangeFuncNested
import Derived.RangeFuncBound
import Derived.RangeFuncCalls
import Derived.RangeFuncLeaves
import Derived.RangeFuncBox
import Derived.Test.YtinknenfhohamaaGreatDoorG29
namespace Go.Proofs.YtinknenfhohamaaGreatDoor
open Go.RowKit

variable {F : Fence} {n : Nat} {P : Program}

/-- An iterator value: what it hands to the rounds and what it may turn. Wr: one own step of it on the world. Kp: what it asks of a round that goes on. Pre: what it asks of the world in which it is called. -/
def Iter {α : Type} (F : Fence) (n : Nat) (P : Program) (g : Nat) (lb : Array Value) (encs : α → Array Value) (Wr Kp : World → World → Prop) (S Sp : List α → Prop) (N : Nat) (Pre : World → Prop) : Prop :=
  ∀ (l : Nat) (J Jx : List α → World → Prop) (W : World), Pre W →
    (∀ s A B, J s A → Wr A B → J s B) → (∀ s A B, Jx s A → Wr A B → Jx s B) →
    (∀ pre x W1, J pre W1 → pre.length < N → YieldAt F (n - 1) P l (encs x) W1 fun e W' =>
      (e = .returned (.bool true) ∧ J (pre ++ [x]) W' ∧ Kp W1 W') ∨ (e = .returned (.bool false) ∧ Jx (pre ++ [x]) W')) →
    J [] W →
    CallsIn F n P g (#[.func (.yield l) #[] #[]] ++ lb) W fun e W' => (∃ v, e = .returned v) ∧ ((∃ xs, S xs ∧ J xs W') ∨ (∃ pre, Sp pre ∧ Jx pre W'))

/-- An own step turns cells alone. -/
def CellsAlone (Wr : World → World → Prop) : Prop := ∀ (A B : World) (k : Nat) (o : Obj), Wr A B → A.heap[k]? = some o → o.isCells = false → B.heap[k]? = some o

theorem wpIn_range {α : Type} {g : Operand} {ps : Array Tmp} {assign body : Code} {Q : Exit → Act → World → Prop} {a : Act} {w : World}
    (hro : F.round = none) (h1 : 1 ≤ n) {gf : Nat} {lb : Array Value} (hg : a.eval g = .func (.func gf) #[] lb) (hFg : F.fn gf) (eg : ∀ args w, (callFunc gf args).run P w = .ok (.enter gf args) w)
    {encs : α → Array Value} {Wr Kp : World → World → Prop} {S Sp : List α → Prop} {N : Nat} {Pre : World → Prop} (hit : Iter F (n - 1) P gf lb encs Wr Kp S Sp N Pre)
    (hWr : CellsAlone Wr) (hpre : ∀ W, Below w.heap.size w W → Pre W)
    (hKt : ∀ {A B C : World}, Kp A B → Kp B C → Kp A C) (hKb : ∀ (W : World) (l : Nat) (o o' : Obj), w.heap.size ≤ l → W.heap[l]? = some o → o.isCells = false → Kp W (W.putObj l o'))
    (hps : ∀ x, (encs x).size = ps.size)
    (I : List α → World → Prop) (Ix : Code → List α → World → Prop) (hI : OwnFrom w.heap.size I) (hIx : ∀ c, OwnFrom w.heap.size (Ix c))
    (hIW : ∀ s A B, I s A → Wr A B → I s B) (hIxW : ∀ c s A B, Ix c s A → Wr A B → Ix c s B) (h0 : I [] w)
    (hround : ∀ (l : Nat) (pre : List α) (x : α) (W : World), I pre W → pre.length < N →
      assign.wpIn (F.inRound l) (n - 1 - 1) P (Exit.then (fun a₁ W₁ => KeepsFrom w.heap.size W W₁ ∧ Kp W W₁ ∧ I pre W₁ ∧
          ∀ V, (∀ p, V.cell? p = W₁.cell? p) → (∀ p, V.frozen? p = W₁.frozen? p) → V.heap.size = W₁.heap.size → I pre V →
            body.wpIn (F.inRound l) (n - 1 - 1) P (ownPostG w.heap.size Kp I Ix (pre ++ [x]) V) a₁ V) (fun _ _ _ => False))
        { tmps := (ps.zip (encs x)).foldl (fun t (p, v) => t.setIfInBounds p v) a.tmps, defers := [] } W)
    (hdone : ∀ (D : Nat) (xs : List α) (W : World), w.heap.size ≤ D → S xs → I xs W → W.heap[D]? = some (.deferred (some [])) → Q .normal { a with defers := { target := .collected D, args := #[] } :: a.defers } W)
    (hstop : ∀ (D : Nat) (c : Code) (pre : List α) (W : World), w.heap.size ≤ D → Sp pre → Ix c pre W → W.heap[D]? = some (.deferred (some [])) → c.wpIn F n P Q { a with defers := { target := .collected D, args := #[] } :: a.defers } W) :
    (Code.rangeFunc g ps assign body).wpIn F n P Q a w := by
  refine wpIn_rangeFunc ?_
  intro fn hfn
  rw [hro]
  obtain ⟨mk, hmk⟩ : ∃ mk : LoopState → Option Code → Loop, mk = fun st pe => { state := st, pending := pe, fn, tmps := a.tmps, params := ps, assign, body, defers := w.heap.size } := ⟨_, rfl⟩
  generalize hD : w.heap.size = D at *
  obtain ⟨W1, hW1⟩ : ∃ W1, (w.alloc (.deferred (some []))).alloc (.loop (mk .ready none)) = W1 := ⟨_, rfl⟩
  have hloop : W1.heap[D + 1]? = some (.loop (mk .ready none)) := by
    rw [← hW1, ← hD]; have := World.alloc_heap_new (w.alloc (.deferred (some []))) (.loop (mk .ready none)); rwa [World.size_alloc] at this
  have hdef : W1.heap[D]? = some (.deferred (some [])) := by
    rw [← hW1, ← hD]; exact (Below.heap_alloc _ _ _ (by simp)).trans (World.alloc_heap_new w _)
  have hbel : Below D w W1 := by
    rw [← hW1]; exact ((Below.refl _ w).alloc (by omega) _).alloc (by simp; omega) _
  have hstart : I [] W1 := by rw [← hW1]; exact hI.alloc _ (hI.alloc _ h0)
  refine ⟨D + 1, [{ target := .collected D, args := #[] }], W1, { target := .fn (.func gf) lb, args := #[.func (.yield (D + 1)) #[] #[]] }, W1, gf,
    #[.func (.yield (D + 1)) #[] #[]] ++ lb, W1, ?_, ?_, ?_, ?_, fun _ => h1, ?_⟩
  · rw [← hW1, hmk, ← hD]; exact run_enterLoop_outer _ _ _ _ _
  · simp only [resolve, hg]
    simp [go_sem]
  · intro f' hf'; simp [Target.leads] at hf'; subst hf'; exact hFg
  · simp [invoke, go_sem, eg]
  have after : ∀ (jump : Option Code) (st : LoopState) (pe : Option Code) (V : World), V.heap[D + 1]? = some (.loop (mk st pe)) → V.heap[D]? = some (.deferred (some [])) →
      (Instr.endRound (D + 1) jump).run P V = .ok (.bool jump.isNone) (V.putObj (D + 1) (.loop (mk (if jump.isNone then .ready else .done) jump))) ∧
      (V.putObj (D + 1) (.loop (mk (if jump.isNone then .ready else .done) jump))).heap[D + 1]? = some (.loop (mk (if jump.isNone then .ready else .done) jump)) ∧
      (V.putObj (D + 1) (.loop (mk (if jump.isNone then .ready else .done) jump))).heap[D]? = some (.deferred (some [])) := fun jump st pe V hl hk => by
    have hr := run_endRound (P := P) jump hl
    rw [hmk] at hr ⊢
    exact ⟨hr, World.putObj_heap_same (Array.getElem?_eq_some_iff.1 hl).1, (World.putObj_heap_other (by omega)).trans hk⟩
  refine (hit (D + 1)
    (fun pre W => I pre W ∧ W.heap[D + 1]? = some (.loop (mk .ready none)) ∧ W.heap[D]? = some (.deferred (some [])))
    (fun pre W => ∃ c, Ix c pre W ∧ W.heap[D + 1]? = some (.loop (mk .done (some c))) ∧ W.heap[D]? = some (.deferred (some [])))
    W1 (hpre _ hbel)
    (fun s A B hs hw => ⟨hIW s A B hs.1 hw, hWr A B _ _ hw hs.2.1 rfl, hWr A B _ _ hw hs.2.2 rfl⟩)
    (fun s A B hs hw => by
      obtain ⟨c, hc, hl, hk⟩ := hs
      exact ⟨c, hIxW c s A B hc hw, hWr A B _ _ hw hl rfl, hWr A B _ _ hw hk rfl⟩)
    ?_ ⟨hstart, hloop, hdef⟩).mono ?_
  · rintro pre x W ⟨hi, hl, hk⟩ hlen
    have hy := run_yield (P := P) (args := encs x) hl (by rw [hmk]; exact hps x)
    rw [hmk] at hy
    refine ⟨fn, _, assign, body, hy, roundIn_of_wpIn hfn (wpIn_mono (hround _ pre x W hi hlen) ?_)⟩
    rintro e a₁ W₁ hp
    cases e with
    | exit id => exact hp.elim
    | goto t => exact hp.elim
    | ret => exact hp.elim
    | panic chain => exact hp.elim
    | outgrown => exact hp.elim
    | normal =>
    obtain ⟨hk1, hkp1, hi1, hb⟩ := hp
    have hl1 := hk1.same _ _ (by omega) hl rfl
    have hd1 := hk1.same _ _ (Nat.le_refl _) hk rfl
    have hlt : D + 1 < W₁.heap.size := (Array.getElem?_eq_some_iff.1 hl1).1
    obtain ⟨V, hV⟩ : ∃ V, W₁.putObj (D + 1) (.loop (mk .busy none)) = V := ⟨_, rfl⟩
    have hrun : (Instr.beginRound (D + 1)).run P W₁ = .ok () V := by
      have := run_beginRound (P := P) hl1 (by rw [hmk]); rw [hmk] at this; rw [this, ← hV, hmk]
    refine ⟨V, hrun, ?_⟩
    have hl2 : V.heap[D + 1]? = some (.loop (mk .busy none)) := by rw [← hV]; exact World.putObj_heap_same hlt
    have hk2 : V.heap[D]? = some (.deferred (some [])) := by rw [← hV]; exact (World.putObj_heap_other (by omega)).trans hd1
    have hKV : Kp W V := by rw [← hV]; exact hKt hkp1 (hKb _ _ _ _ (by omega) hl1 rfl)
    have hIV : I pre V := by rw [← hV]; exact hI.putObj _ hi1 (by omega) hl1 rfl
    have hcell : ∀ p, V.cell? p = W₁.cell? p := fun p => by
      by_cases e : p.block = D + 1
      · simp only [World.cell?, e, hl2, hl1]
      · exact World.cell?_of_block (by rw [← hV]; exact World.putObj_heap_other e)
    have hfro : ∀ p, V.frozen? p = W₁.frozen? p := fun p => by
      by_cases e : p.block = D + 1
      · simp only [World.frozen?, e, hl2, hl1]
      · exact World.frozen?_of_block (by rw [← hV]; exact World.putObj_heap_other e)
    refine wpIn_mono (hb V hcell hfro (by rw [← hV]; simp) hIV) ?_
    rintro e a3 W3 hp
    cases e with
    | normal =>
      obtain ⟨hk3, hkp, hi3⟩ := hp
      obtain ⟨hr, hl4, hk4⟩ := after none _ _ W3 (hk3.same _ _ (by omega) hl2 rfl) (hk3.same _ _ (Nat.le_refl _) hk2 rfl)
      exact ⟨_, _, hr, .inl ⟨rfl, ⟨hI.putObj _ hi3 (by omega) (hk3.same _ _ (by omega) hl2 rfl) rfl, hl4, hk4⟩, hKt (hKt hKV hkp) (hKb _ _ _ _ (by omega) (hk3.same _ _ (by omega) hl2 rfl) rfl)⟩⟩
    | ret =>
      obtain ⟨hk3, hi3⟩ := hp
      obtain ⟨hr, hl4, hk4⟩ := after (some .ret) _ _ W3 (hk3.same _ _ (by omega) hl2 rfl) (hk3.same _ _ (Nat.le_refl _) hk2 rfl)
      exact ⟨_, _, hr, .inr ⟨rfl, .ret, (hIx _).putObj _ hi3 (by omega) (hk3.same _ _ (by omega) hl2 rfl) rfl, hl4, hk4⟩⟩
    | exit id =>
      obtain ⟨hk3, hi3⟩ := hp
      obtain ⟨hr, hl4, hk4⟩ := after (some (.exit id)) _ _ W3 (hk3.same _ _ (by omega) hl2 rfl) (hk3.same _ _ (Nat.le_refl _) hk2 rfl)
      exact ⟨_, _, hr, .inr ⟨rfl, .exit id, (hIx _).putObj _ hi3 (by omega) (hk3.same _ _ (by omega) hl2 rfl) rfl, hl4, hk4⟩⟩
    | goto t =>
      obtain ⟨hk3, hi3⟩ := hp
      obtain ⟨hr, hl4, hk4⟩ := after (some (.goto t)) _ _ W3 (hk3.same _ _ (by omega) hl2 rfl) (hk3.same _ _ (Nat.le_refl _) hk2 rfl)
      exact ⟨_, _, hr, .inr ⟨rfl, .goto t, (hIx _).putObj _ hi3 (by omega) (hk3.same _ _ (by omega) hl2 rfl) rfl, hl4, hk4⟩⟩
    | panic ch => exact hp.elim
    | outgrown => exact hp.elim
  · rintro e W2 ⟨⟨v, rfl⟩, (⟨xs, hS, hi, hl, hk⟩ | ⟨pre, hSp, c, hi, hl, hk⟩)⟩
    · have hend := run_endLoop (P := P) hl (by rw [hmk]; simp)
      rw [hmk] at hend hl
      exact ⟨none, _, hend, hdone D xs _ (Nat.le_refl _) hS (hI.putObj _ hi (by omega) hl rfl) ((World.putObj_heap_other (by omega)).trans hk)⟩
    · have hend := run_endLoop (P := P) hl (by rw [hmk]; simp)
      rw [hmk] at hend hl
      exact ⟨some c, _, hend, hstop D c pre _ (Nat.le_refl _) hSp ((hIx c).putObj _ hi (by omega) hl rfl) ((World.putObj_heap_other (by omega)).trans hk)⟩
end Go.Proofs.YtinknenfhohamaaGreatDoor

namespace Go.Proofs.YtinknenfhohamaaGreatDoor
open Go.RowKit
set_option maxRecDepth 100000

/-- The program that waits for keys and copies them. -/
def echoL : List Int := [11, 0, 9, 0, 12, 20, 2, 20, 6, 19, 3, 20, 8, 0, 0, 0, 0, 0, 0, 1]
def memF (n : Int) (j : Nat) : Int := if j = 20 then n else echoL.getD j 0
def procF (ks : Value) (n a c t : Int) : Nat → Value := fun i =>
  if i = 0 then ks else if i < 257 then .int .u8 (memF n (i - 1)) else if i < 513 then .int .u8 0 else if i = 513 then .int .u8 a else if i = 514 then .int .u8 c else .int .i64 t
theorem PrB.ext {W : World} {b : Nat} {f g : Nat → Value} (h : PrB W b f) (he : ∀ i, i < 516 → f i = g i) : PrB W b g := by
  obtain ⟨cs, h1, h2⟩ := h
  exact ⟨cs, h1, fun i hi => (h2 i hi).trans (congrArg some (he i hi))⟩
theorem procF_0 (ks ks' : Value) (n a c t : Int) : ∀ i, i < 516 → updF (procF ks n a c t) 0 ks' i = procF ks' n a c t i := by
  intro i hi
  unfold updF procF
  by_cases e : i = 0
  · simp [e]
  · simp [e]
theorem procF_20 (ks : Value) (n n' a c t : Int) : ∀ i, i < 516 → updF (procF ks n a c t) (1 + 20) (.int .u8 n') i = procF ks n' a c t i := by
  intro i hi
  unfold updF procF memF
  by_cases e : i = 1 + 20
  · subst e; simp
  · have : ¬ i - 1 = 20 ∨ i = 0 := by omega
    rcases this with h | h
    · simp [e, h]
    · subst h; simp
theorem procF_a (ks : Value) (n a a' c t : Int) : ∀ i, i < 516 → updF (procF ks n a c t) 513 (.int .u8 a') i = procF ks n a' c t i := by
  intro i hi
  unfold updF procF
  by_cases e : i = 513
  · subst e; simp
  · simp [e]
theorem procF_c (ks : Value) (n a c c' t : Int) : ∀ i, i < 516 → updF (procF ks n a c t) 514 (.int .u8 c') i = procF ks n a c' t i := by
  intro i hi
  unfold updF procF
  by_cases e : i = 514
  · subst e; simp
  · simp [e]
theorem procF_t (ks : Value) (n a c t t' : Int) : ∀ i, i < 516 → updF (procF ks n a c t) 515 (.int .i64 t') i = procF ks n a c t' i := by
  intro i hi
  unfold updF procF
  by_cases e : i = 515
  · subst e; simp
  · have : i < 515 := by omega
    by_cases h0 : i = 0
    · simp [h0]
    by_cases h1 : i < 257
    · simp [e, h0, h1]
    by_cases h2 : i < 513
    · simp [e, h0, h1, h2]
    by_cases h3 : i = 513
    · simp [h3]
    have h4 : i = 514 := by omega
    subst h4
    simp
/-- The keys that are left lie below the processor. -/
def KeyS (W : World) (b : Nat) (ak : Option Addr) (cc : Nat) (L : List Ev) : Prop := EvS W ak L ∧ L.length ≤ cc ∧ cc ≤ 9223372036854775807 ∧ ∀ x, ak = some x → x.block < b
theorem KeyS.below {W W' : World} {b : Nat} {ak : Option Addr} {cc : Nat} {L : List Ev} (h : KeyS W b ak cc L) (hb : Below b W W') : KeyS W' b ak cc L := by
  refine ⟨fun i x hi => ?_, h.2⟩
  obtain ⟨kb, ko, e, hlt, c0, c1, c2, c3⟩ := h.1 i x hi
  have hk : kb < b := h.2.2.2 _ e
  exact ⟨kb, ko, e, Nat.lt_of_lt_of_le hlt hb.size, (hb.cell (p := ⟨kb, _, none⟩) hk).trans c0, (hb.cell (p := ⟨kb, _, none⟩) hk).trans c1, (hb.cell (p := ⟨kb, _, none⟩) hk).trans c2, (hb.cell (p := ⟨kb, _, none⟩) hk).trans c3⟩
/-- The processor in a state. -/
def MacAt (W : World) (b : Nat) (m : Mac) : Prop := ∃ ak cc, PrB W b (procF (.slice ak m.keys.length cc) m.n m.a m.c m.t) ∧ KeyS W b ak cc m.keys
/-- What take does to the keys. -/
theorem take_keys {W : World} {b : Nat} {ak : Option Addr} {cc : Nat} {L : List Ev} (t : Int) (h : KeyS W b ak cc L) (hl : L.length ≤ 20) (ha : ∀ k ∈ L, 1 ≤ k.a ∧ k.a ≤ 255) {f : Nat → Value} (h0 : f 0 = .slice ak L.length cc) :
    ∃ ak' cc' L' a, TakeOk W f t (.slice ak' L'.length cc') a ∧ KeyS W b ak' cc' L' ∧ ((L = [] ∧ L' = [] ∧ a = 0) ∨ (∃ k ks, L = k :: ks ∧ t < k.tm ∧ L' = L ∧ a = 0) ∨ (∃ k, L = k :: L' ∧ k.tm ≤ t ∧ a = k.a)) := by
  cases L with
  | nil => exact ⟨ak, cc, [], 0, .inl ⟨ak, cc, h0, h0.symm, rfl⟩, h, .inl ⟨rfl, rfl, rfl⟩⟩
  | cons k ks =>
    obtain ⟨kb, ko, rfl, hlt, c0, c1, c2, c3⟩ := h.1 0 k rfl
    rw [Nat.zero_mul, Nat.add_zero] at c0 c1 c2 c3
    by_cases ht : t < k.tm
    · exact ⟨_, cc, k :: ks, 0, .inr (.inl ⟨kb, ko, ks.length, cc, k.tm, h0, c0, ht, h0.symm, rfl⟩), h, .inr (.inl ⟨k, ks, rfl, ht, rfl, rfl⟩)⟩
    · have hk := ha k (List.mem_cons_self ..)
      have hlc := h.2.1
      have hcc := h.2.2.1
      simp only [List.length_cons] at hl hlc
      by_cases h1 : 1 < cc
      · refine ⟨some ⟨kb, ko + 4, none⟩, cc - 1, ks, k.a, .inr (.inr (.inl ⟨kb, ko, ks.length, cc, k.tm, h0, c0, c2, by omega, hk, by omega, h1, hlc, hcc, rfl⟩)), ⟨?_, by omega, by omega, ?_⟩, .inr (.inr ⟨k, rfl, by omega, rfl⟩)⟩
        · intro i x hi
          obtain ⟨kb', ko', e, hlt', d⟩ := h.1 (i + 1) x (by simpa using hi)
          injection e with e
          injection e with e1 e2 _
          subst e1 e2
          refine ⟨kb, ko + 4, rfl, hlt, ?_⟩
          rw [show ko + 4 + i * 4 = ko + (i + 1) * 4 by omega]
          exact d
        · intro x hx
          cases hx
          exact h.2.2.2 ⟨kb, ko, none⟩ rfl
      · have hks : ks = [] := List.eq_nil_of_length_eq_zero (by omega)
        have hc1 : cc = 1 := by omega
        subst hks hc1
        exact ⟨some ⟨kb, ko, none⟩, 0, [], k.a, .inr (.inr (.inr ⟨kb, ko, k.tm, h0, c0, c2, by omega, hk, rfl⟩)), ⟨EvS.nil _ _, Nat.le_refl _, by omega, h.2.2.2⟩, .inr (.inr ⟨k, rfl, by omega, rfl⟩)⟩
/-- What the computer asks of a round that goes on. -/
def KpT (b : Nat) (A B : World) : Prop := Below b A B ∧ ∀ (k : Nat) (cs : Array Value) (t : TypeId), A.heap[k]? = some (.cells cs t (0, 0)) → t ≠ 28 → t ≠ 24 → B.heap[k]? = some (.cells cs t (0, 0))
theorem KpT.trans {b : Nat} {A B C : World} (h : KpT b A B) (k : KpT b B C) : KpT b A C := ⟨h.1.trans k.1, fun i cs t hi h1 h2 => k.2 i cs t (h.2 i cs t hi h1 h2) h1 h2⟩
theorem KpT.pr {b : Nat} {A B : World} (h : KpT b A B) {f : Nat → Value} (hp : PrB A b f) : PrB B b f := by
  obtain ⟨cs, h1, h2⟩ := hp
  exact ⟨cs, h.2 _ _ _ h1 (by decide) (by decide), h2⟩
theorem KpT.ops {b gs : Nat} {A B : World} (h : KpT b A B) (hp : OpsAt A gs) : OpsAt B gs := by
  obtain ⟨p2, p3, p6, p8, q8, p9, q9, p11, hp⟩ := hp
  exact ⟨p2, p3, p6, p8, q8, p9, q9, p11, hp.kept (fun k cs t h1 h2 => h.2 k cs t h1 h2.2.1 h2.2.2)⟩
theorem Own.ops {b gs : Nat} {A B : World} (h : Own b A B) (hp : OpsAt A gs) : OpsAt B gs := by
  obtain ⟨p2, p3, p6, p8, q8, p9, q9, p11, hp⟩ := hp
  exact ⟨p2, p3, p6, p8, q8, p9, q9, p11, hp.kept (fun k cs t h1 h2 => h.other h1 h2.1)⟩
/-- The two captured variables of the iterator. -/
def VarsAt (W : World) (b bx bm M : Nat) : Prop := W.heap[bx]? = some (.cells #[.pointer (some ⟨b, 0, none⟩)] 56 (0, 0)) ∧ W.heap[bm]? = some (.cells #[.int .i64 (M : Int)] 3 (0, 0))
theorem KpT.vars {b bx bm M : Nat} {A B : World} (h : KpT b A B) (hp : VarsAt A b bx bm M) : VarsAt B b bx bm M := ⟨h.2 _ _ _ hp.1 (by decide) (by decide), h.2 _ _ _ hp.2 (by decide) (by decide)⟩
theorem Own.vars {b bx bm M : Nat} {A B : World} (h : Own b A B) (hp : VarsAt A b bx bm M) : VarsAt B b bx bm M := ⟨h.other hp.1 (by decide), h.other hp.2 (by decide)⟩
/-- What holds at the head of a round. -/
structure RunI (b bx bm gs M : Nat) (E : List Ev) (J : List Ev → World → Prop) (W : World) (m : Mac) (pre : List Ev) : Prop where
  ok : OkM m
  mac : MacAt W b m
  ops : OpsAt W gs
  vars : VarsAt W b bx bm M
  j : J pre W
  t0 : 0 ≤ m.t
  t1 : m.t ≤ M
  run : pre ++ runM (M - m.t.toNat) m = E
theorem stepM_t (m : Mac) : (stepM m).1.t = m.t + 1 := by
  obtain ⟨ks, n, a, c, t⟩ := m
  unfold stepM
  simp only
  split
  · cases ks with
    | nil => rfl
    | cons k ks => simp only; split <;> rfl
  · split <;> rfl
  all_goals rfl
/-- One round more. -/
theorem run_more {M : Nat} {m : Mac} {pre E : List Ev} (h : pre ++ runM (M - m.t.toNat) m = E) (h0 : 0 ≤ m.t) (h1 : m.t < M) : pre ++ (stepM m).2.toList ++ runM (M - (stepM m).1.t.toNat) (stepM m).1 = E := by
  rw [stepM_t, List.append_assoc, ← h]
  rw [show M - m.t.toNat = (M - (m.t + 1).toNat) + 1 by omega]
  rfl
theorem keys_le {ks : List Ev} {n a t : Int} {c : Nat} (h : OkM ⟨ks, n, a, c, t⟩) : ks.length ≤ 20 := by
  have h1 := h.l
  have h2 := h.n0
  simp only [busy] at h1 h2
  split at h1 <;> omega
theorem n_byte {ks : List Ev} {n a t : Int} {c : Nat} (h : OkM ⟨ks, n, a, c, t⟩) : 0 ≤ n ∧ n ≤ 255 := by
  have h1 := h.l
  have h2 := h.n0
  simp only [busy] at h1 h2
  split at h1 <;> omega
theorem wrap_8 {ks : List Ev} {n a t : Int} (h : OkM ⟨ks, n, a, 8, t⟩) : IntKind.u8.wrap (a + 1) = a + 1 := by
  have h1 := h.e8 rfl
  have h2 := h.l
  have h3 := h.n0
  simp only [busy] at h1 h2 h3
  have h4 : n ≤ 20 := by split at h2 <;> omega
  show (a + 1) % 256 = a + 1
  omega
theorem procF_0a (ks ks' : Value) (n a a' c t : Int) : ∀ i, i < 516 → updF (updF (procF ks n a c t) 0 ks') 513 (.int .u8 a') i = procF ks' n a' c t i := by
  intro i hi
  unfold updF procF
  by_cases e : i = 513
  · subst e; simp
  · by_cases e0 : i = 0
    · simp [e0]
    · simp [e, e0]
theorem step_0 {L L' : List Ev} {n a a' t : Int} (h : (L = [] ∧ L' = [] ∧ a' = 0) ∨ (∃ k ks, L = k :: ks ∧ t < k.tm ∧ L' = L ∧ a' = 0) ∨ (∃ k, L = k :: L' ∧ k.tm ≤ t ∧ a' = k.a)) : stepM ⟨L, n, a, 0, t⟩ = (⟨L', n, a', 2, t + 1⟩, none) := by
  rcases h with ⟨rfl, rfl, rfl⟩ | ⟨k, ks2, rfl, h, rfl, rfl⟩ | ⟨k, rfl, h, rfl⟩
  · rfl
  · simp only [stepM]; rw [if_neg (by omega)]
  · simp only [stepM]; rw [if_pos h]
/-- A round without an event ends. -/
theorem round_end {b bx bm gs M : Nat} {E : List Ev} {J : List Ev → World → Prop} {wr w6 : World} {ks ks' : List Ev} {n n' a a' : Int} {c c' : Nat} {t : Int} {pre : List Ev} {ak' : Option Addr} {cc' : Nat}
    (hJ : ∀ (s : List Ev) (A B : World), J s A → Own b A B → J s B) (hops : OpsAt wr gs) (hvars : VarsAt wr b bx bm M) (hj : J pre wr) (hrun : pre ++ runM (M - t.toNat) ⟨ks, n, a, c, t⟩ = E) (hok : OkM ⟨ks, n, a, c, t⟩)
    (ht0 : 0 ≤ t) (ht : t < M) (hx : wr.cell? ⟨b, 515, none⟩ = some (.int .i64 t)) (ho : Own b wr w6) (hp : PrB w6 b (procF (.slice ak' ks'.length cc') n' a' c' t)) (hk : KeyS w6 b ak' cc' ks') (hst : stepM ⟨ks, n, a, c, t⟩ = (⟨ks', n', a', c', t + 1⟩, none)) :
    (∃ m pre, RunI b bx bm gs M E J (w6.setCell ⟨b, 515, none⟩ (.int .i64 (t + 1))) m pre) ∧ M - (intOf (((w6.setCell ⟨b, 515, none⟩ (.int .i64 (t + 1))).cell? ⟨b, 515, none⟩).getD undef)).toNat < M - (intOf ((wr.cell? ⟨b, 515, none⟩).getD undef)).toNat := by
  have ho7 : Own b wr (w6.setCell ⟨b, 515, none⟩ (.int .i64 (t + 1))) := ho.trans (Own.set hp 515 _)
  have hp7 := (hp.set 515 (.int .i64 (t + 1))).ext (procF_t _ _ _ _ _ _)
  have hmore := run_more (m := ⟨ks, n, a, c, t⟩) hrun ht0 ht
  rw [hst] at hmore
  simp only [Option.toList, List.append_nil] at hmore
  have hok' := step_ok hok
  rw [hst] at hok'
  refine ⟨⟨⟨ks', n', a', c', t + 1⟩, pre, ⟨hok', ⟨ak', cc', hp7, hk.below (Own.set hp 515 _).below⟩, ho7.ops hops, ho7.vars hvars, hJ _ _ _ hj ho7, by simp only; omega, by simp only; omega, hmore⟩⟩, ?_⟩
  rw [hx, hp7.cell 515 (by omega)]
  simp only [procF, Option.getD_some]
  simp [intOf]
  omega
/-- A round with an event ends. -/
theorem round_event {b bx bm gs M : Nat} {E : List Ev} {J : List Ev → World → Prop} {wr w6 w7 : World} {ks ks' : List Ev} {n n' a a' : Int} {c c' : Nat} {t : Int} {pre : List Ev} {ak' : Option Addr} {cc' : Nat} {x : Ev}
    (hJ : ∀ (s : List Ev) (A B : World), J s A → Own b A B → J s B) (hops : OpsAt wr gs) (hvars : VarsAt wr b bx bm M) (hrun : pre ++ runM (M - t.toNat) ⟨ks, n, a, c, t⟩ = E) (hok : OkM ⟨ks, n, a, c, t⟩)
    (ht0 : 0 ≤ t) (ht : t < M) (hx : wr.cell? ⟨b, 515, none⟩ = some (.int .i64 t)) (ho : Own b wr w6) (hk7 : KpT b w6 w7) (hj : J (pre ++ [x]) w7) (hp : PrB w7 b (procF (.slice ak' ks'.length cc') n' a' c' t)) (hk : KeyS w7 b ak' cc' ks') (hst : stepM ⟨ks, n, a, c, t⟩ = (⟨ks', n', a', c', t + 1⟩, some x)) :
    (∃ m pre, RunI b bx bm gs M E J (w7.setCell ⟨b, 515, none⟩ (.int .i64 (t + 1))) m pre) ∧ M - (intOf (((w7.setCell ⟨b, 515, none⟩ (.int .i64 (t + 1))).cell? ⟨b, 515, none⟩).getD undef)).toNat < M - (intOf ((wr.cell? ⟨b, 515, none⟩).getD undef)).toNat := by
  have ho7 : Own b w7 (w7.setCell ⟨b, 515, none⟩ (.int .i64 (t + 1))) := Own.set hp 515 _
  have hp7 := (hp.set 515 (.int .i64 (t + 1))).ext (procF_t _ _ _ _ _ _)
  have hmore := run_more (m := ⟨ks, n, a, c, t⟩) hrun ht0 ht
  rw [hst] at hmore
  simp only [Option.toList] at hmore
  have hok' := step_ok hok
  rw [hst] at hok'
  refine ⟨⟨⟨ks', n', a', c', t + 1⟩, pre ++ [x], ⟨hok', ⟨ak', cc', hp7, hk.below ho7.below⟩, ho7.ops (hk7.ops (ho.ops hops)), ho7.vars (hk7.vars (ho.vars hvars)), hJ _ _ _ hj ho7, by simp only; omega, by simp only; omega, hmore⟩⟩, ?_⟩
  rw [hx, hp7.cell 515 (by omega)]
  simp only [procF, Option.getD_some]
  simp [intOf]
  omega
end Go.Proofs.YtinknenfhohamaaGreatDoor
