/- TopDelayed: what the computer does with the program that waits for keys and copies them, as plain mathematics. -/
import Derived.Test.YtinknenfhohamaaGreatDoorG23
namespace Go.Proofs.YtinknenfhohamaaGreatDoor

/-- The computer at one time: keys left, how many were copied, the accumulator, the counter, the time. -/
structure Mac where
  keys : List Ev
  n : Int
  a : Int
  c : Nat
  t : Int
/-- One step of the program. -/
def stepM (m : Mac) : Mac × Option Ev :=
  match m.c with
  | 0 => match m.keys with
    | [] => (⟨[], m.n, 0, 2, m.t + 1⟩, none)
    | k :: ks => if k.tm ≤ m.t then (⟨ks, m.n, k.a, 2, m.t + 1⟩, none) else (⟨k :: ks, m.n, 0, 2, m.t + 1⟩, none)
  | 2 => if m.a = 0 then (⟨m.keys, m.n, m.a, 0, m.t + 1⟩, none) else (⟨m.keys, m.n, m.a, 4, m.t + 1⟩, none)
  | 4 => (⟨m.keys, m.n, m.a, 6, m.t + 1⟩, some ⟨m.t, 1, m.n % 80, m.a⟩)
  | 6 => (⟨m.keys, m.n, m.n, 8, m.t + 1⟩, none)
  | 8 => (⟨m.keys, m.n, m.a + 1, 10, m.t + 1⟩, none)
  | 10 => (⟨m.keys, m.a, m.a, 12, m.t + 1⟩, none)
  | _ => (⟨m.keys, m.n, m.a, 0, m.t + 1⟩, none)
/-- The events of some steps. -/
def runM : Nat → Mac → List Ev
  | 0, _ => []
  | s + 1, m => (stepM m).2.toList ++ runM s (stepM m).1
def shiftE (d : Int) (e : Ev) : Ev := ⟨e.tm + d, e.kd, e.a, e.b⟩
def shiftM (d : Int) (m : Mac) : Mac := ⟨m.keys.map (shiftE d), m.n, m.a, m.c, m.t + d⟩
theorem step_shift (d : Int) (m : Mac) : stepM (shiftM d m) = (shiftM d (stepM m).1, (stepM m).2.map (shiftE d)) := by
  obtain ⟨ks, n, a, c, t⟩ := m
  unfold stepM shiftM
  simp only
  split
  · cases ks with
    | nil => simp; omega
    | cons k ks =>
      by_cases h : k.tm ≤ t
      · simp [shiftE, h]; omega
      · have h2 : ¬ k.tm + d ≤ t + d := by omega
        simp [shiftE, h]; omega
  · by_cases h : a = 0
    · simp [h]; omega
    · simp [h]; omega
  all_goals (simp [shiftE]; try omega)
theorem run_shift (d : Int) (s : Nat) : ∀ m, runM s (shiftM d m) = (runM s m).map (shiftE d) := by
  induction s with
  | zero => intro m; rfl
  | succ s ih =>
    intro m
    rw [runM, runM, step_shift, List.map_append, ih]
    cases (stepM m).2 <;> rfl
/-- A round in which no key is there. -/
theorem run_wait {ks : List Ev} {n a t : Int} (h : ∀ k, ks.head? = some k → t < k.tm) (s : Nat) : runM (s + 2) ⟨ks, n, a, 0, t⟩ = runM s ⟨ks, n, 0, 0, t + 2⟩ := by
  have e1 : stepM ⟨ks, n, a, 0, t⟩ = (⟨ks, n, 0, 2, t + 1⟩, none) := by
    cases ks with
    | nil => rfl
    | cons k ks =>
      have := h k rfl
      simp only [stepM]
      rw [if_neg (by omega)]
  have e2 : stepM ⟨ks, n, 0, 2, t + 1⟩ = (⟨ks, n, 0, 0, t + 1 + 1⟩, none) := by simp [stepM]
  rw [runM, e1, runM, e2, show t + 1 + 1 = t + 2 by omega]
  rfl
/-- A round in which a key is taken. -/
theorem run_key {k : Ev} {ks : List Ev} {n a t : Int} (h : k.tm ≤ t) (ha : k.a ≠ 0) (s : Nat) : runM (s + 7) ⟨k :: ks, n, a, 0, t⟩ = ⟨t + 2, 1, n % 80, k.a⟩ :: runM s ⟨ks, n + 1, n + 1, 0, t + 7⟩ := by
  simp only [runM, stepM, if_pos h, if_neg ha, Option.toList, List.nil_append, List.cons_append]
  rw [show t + 1 + 1 = t + 2 by omega, show t + 2 + 1 + 1 + 1 + 1 + 1 = t + 7 by omega]
/-- Keys that are all later: the first rounds are waited. -/
theorem run_late {ks : List Ev} {n : Int} (j : Nat) (h : ∀ k ∈ ks, 2 * (j : Int) ≤ k.tm) (s : Nat) : runM (s + 2 * j) ⟨ks, n, 0, 0, 0⟩ = runM s ⟨ks, n, 0, 0, 2 * j⟩ := by
  have key : ∀ i, i ≤ j → runM (s + 2 * j) ⟨ks, n, 0, 0, 0⟩ = runM (s + 2 * (j - i)) ⟨ks, n, 0, 0, 2 * i⟩ := by
    intro i
    induction i with
    | zero => intro _; simp
    | succ i ih =>
      intro hi
      rw [ih (by omega), show s + 2 * (j - i) = s + 2 * (j - (i + 1)) + 2 by omega, run_wait (fun k hk => by
        have := h k (List.mem_of_mem_head? hk)
        omega)]
      congr 2
      all_goals (push_cast; omega)
  have := key j (Nat.le_refl _)
  rw [this]
  simp
/-- Later keys, a longer session: the same events, later. -/
theorem run_moved {ks : List Ev} {n : Int} (j s : Nat) (h : ∀ k ∈ ks, 0 ≤ k.tm) : runM (s + 2 * j) ⟨ks.map (shiftE (2 * j)), n, 0, 0, 0⟩ = (runM s ⟨ks, n, 0, 0, 0⟩).map (shiftE (2 * j)) := by
  rw [run_late j (fun k hk => by
    obtain ⟨e, he, rfl⟩ := List.mem_map.1 hk
    have := h e he
    simp only [shiftE]
    omega), ← run_shift]
  congr 1
  simp [shiftM]
/-- Each key makes one event. -/
theorem run_len (M : Int) : ∀ (s : Nat) (ks : List Ev) (n a t : Int), (∀ k ∈ ks, k.tm ≤ M ∧ k.a ≠ 0) → max (M + 2 - t) 0 + 7 * (ks.length : Int) ≤ (s : Int) → (runM s ⟨ks, n, a, 0, t⟩).length = ks.length := by
  intro s
  induction s using Nat.strongRecOn with
  | ind s ih =>
    intro ks n a t hk hs
    cases ks with
    | nil =>
      rcases s with _ | _ | s
      · rfl
      · rfl
      · rw [run_wait (by intro k h; cases h)]
        exact ih s (by omega) [] n 0 (t + 2) (by intro k h; cases h) (by simp at hs ⊢; omega)
    | cons k ks =>
      have h1 := hk k (List.mem_cons_self ..)
      simp only [List.length_cons] at hs
      push_cast at hs
      by_cases ht : k.tm ≤ t
      · obtain ⟨s', rfl⟩ : ∃ s', s = s' + 7 := ⟨s - 7, by omega⟩
        rw [run_key ht h1.2, List.length_cons, List.length_cons, ih s' (by omega) ks _ _ _ (fun e he => hk e (List.mem_cons_of_mem _ he)) (by push_cast at hs; omega)]
      · obtain ⟨s', rfl⟩ : ∃ s', s = s' + 2 := ⟨s - 2, by omega⟩
        rw [run_wait (by intro k' h; simp at h; subst h; omega)]
        exact ih s' (by omega) (k :: ks) n 0 (t + 2) hk (by simp only [List.length_cons]; push_cast at hs ⊢; omega)
theorem run_kind (s : Nat) : ∀ m, ∀ e ∈ runM s m, e.kd = 1 := by
  induction s with
  | zero => intro m e he; cases he
  | succ s ih =>
    intro m e he
    rw [runM] at he
    rcases List.mem_append.1 he with he | he
    · unfold stepM at he
      split at he
      · split at he
        · cases he
        · split at he <;> cases he
      · split at he <;> cases he
      all_goals first | (simp at he; done) | (simp at he; rw [he]; done)
    · exact ih _ e he
/-- What Compare says of events and the same ones, later. -/
theorem texts_counted {s : Int} (hs : 0 ≤ s ∧ s ≤ 20000) {L : List Ev} (hL : ∀ e ∈ L, e.kd = 1) : counted ⟨2, s, true⟩ L = L := by
  rw [counted_eq ((validR_iff _).2 ⟨by simp, by simp, by simp, hs.1, hs.2⟩)]
  rw [List.filter_eq_self]
  intro e he
  rw [cnt, hL e he]
  show (decide ((1 : Int) ≤ 1 ∧ (1 : Int) ≤ 5) && decide ((2 : Int) / 2 ^ (1 : Int).toNat % 2 = 1)) = true
  decide
theorem wide_yes {d : Int} (hd : 0 ≤ d ∧ d ≤ 20000) {L : List Ev} (hL : ∀ e ∈ L, e.kd = 1) : (compareR ⟨2, d, true⟩ L (L.map (shiftE d))).2 = true := by
  have hm : ∀ e ∈ L.map (shiftE d), e.kd = 1 := by
    intro e he
    obtain ⟨x, hx, rfl⟩ := List.mem_map.1 he
    exact hL x hx
  have hv : validR ⟨2, d, true⟩ = true := (validR_iff _).2 ⟨by simp, by simp, by simp, hd.1, hd.2⟩
  rw [ordered_at hv rfl (n := L.length) (by rw [texts_counted hd hL]; omega) (by rw [texts_counted hd hm, List.length_map]; omega)]
  · rw [if_pos ⟨by rw [texts_counted hd hL], by rw [texts_counted hd hm, List.length_map]⟩]
  · intro i hi
    rw [texts_counted hd hL, texts_counted hd hm]
    rw [List.getD_eq_getElem?_getD, List.getD_eq_getElem?_getD, List.getElem?_map, List.getElem?_eq_getElem hi, alike, Bool.and_eq_true]
    refine ⟨by simp [cls, shiftE], ?_⟩
    rw [near, decide_eq_true_iff]
    simp only [shiftE, Option.map_some, Option.getD_some]
    omega
  · rw [texts_counted hd hL]; intro h; omega
theorem narrow_is {d : Int} (hd : 0 ≤ d ∧ d ≤ 20000) {L : List Ev} (hL : ∀ e ∈ L, e.kd = 1) : (compareR ⟨2, max 0 (d - 1), true⟩ L (L.map (shiftE d))).2 = decide (d = 0 ∨ L.length = 0) := by
  by_cases h0 : d = 0
  · subst h0
    rw [show max (0 : Int) (0 - 1) = 0 by omega, wide_yes (by omega) hL]; simp
  have hm : ∀ e ∈ L.map (shiftE d), e.kd = 1 := by
    intro e he
    obtain ⟨x, hx, rfl⟩ := List.mem_map.1 he
    exact hL x hx
  have hs : 0 ≤ max 0 (d - 1) ∧ max 0 (d - 1) ≤ 20000 := by omega
  have hv : validR ⟨2, max 0 (d - 1), true⟩ = true := (validR_iff _).2 ⟨by simp, by simp, by simp, hs.1, hs.2⟩
  rw [ordered_at hv rfl (n := 0) (by omega) (by omega) (fun i hi => by omega)]
  · rw [texts_counted hs hL, texts_counted hs hm, List.length_map]
    by_cases hl : L.length = 0
    · simp [hl]
    · rw [if_neg (by omega)]
      simp [h0]
      intro h; subst h; exact hl rfl
  · rw [texts_counted hs hL, texts_counted hs hm]
    intro hi _
    rw [List.getD_eq_getElem?_getD, List.getD_eq_getElem?_getD, List.getElem?_map, List.getElem?_eq_getElem hi, alike, Bool.and_eq_false_iff]
    right
    rw [near, decide_eq_false_iff_not]
    simp only [shiftE, Option.map_some, Option.getD_some]
    omega
/-- The keys that integers determine. -/
def typedFrom (t : Int) : List (Int × Int) → List Ev
  | [] => []
  | p :: l => ⟨t + pick p.1 60, 5, 1 + pick p.2 255, 0⟩ :: typedFrom (t + pick p.1 60) l
def typedR (l : List (Int × Int)) : List Ev := typedFrom 0 (l.take 20)
theorem typedFrom_length (l : List (Int × Int)) : ∀ t, (typedFrom t l).length = l.length := by
  induction l with
  | nil => intro t; rfl
  | cons p l ih => intro t; rw [typedFrom, List.length_cons, List.length_cons, ih]
theorem typedFrom_facts (l : List (Int × Int)) : ∀ t, ∀ e ∈ typedFrom t l, t ≤ e.tm ∧ e.tm ≤ t + 59 * (l.length : Int) ∧ 1 ≤ e.a ∧ e.a ≤ 255 ∧ e.kd = 5 ∧ e.b = 0 := by
  induction l with
  | nil => intro t e he; cases he
  | cons p l ih =>
    intro t e he
    have h1 := pick_lo (c := p.1) (n := 60) (by omega)
    have h2 := pick_hi (c := p.1) (n := 60) (by omega)
    have h3 := pick_lo (c := p.2) (n := 255) (by omega)
    have h4 := pick_hi (c := p.2) (n := 255) (by omega)
    rw [List.length_cons]
    push_cast
    rcases List.mem_cons.1 he with rfl | he
    · exact ⟨by simp only; omega, by simp only; omega, by simp only; omega, by simp only; omega, rfl, rfl⟩
    · have := ih _ e he
      exact ⟨by omega, by omega, this.2.2⟩
theorem typedR_facts (l : List (Int × Int)) : (typedR l).length ≤ 20 ∧ ∀ e ∈ typedR l, 0 ≤ e.tm ∧ e.tm ≤ 1180 ∧ 1 ≤ e.a ∧ e.a ≤ 255 ∧ e.kd = 5 ∧ e.b = 0 := by
  have hl : (l.take 20).length ≤ 20 := by rw [List.length_take]; omega
  refine ⟨by rw [typedR, typedFrom_length]; exact hl, fun e he => ?_⟩
  have := typedFrom_facts _ 0 e he
  exact ⟨by omega, by omega, this.2.2⟩
/-- The start. -/
def startM (ks : List Ev) : Mac := ⟨ks, 0, 0, 0, 0⟩
/-- What the statement says, in plain words. -/
theorem top_facts (l : List (Int × Int)) (j : Nat) (hj : j ≤ 100) :
    runM (3000 + 2 * j) (startM ((typedR l).map (shiftE (2 * j)))) = (runM 3000 (startM (typedR l))).map (shiftE (2 * j)) ∧
    (runM 3000 (startM (typedR l))).length = (typedR l).length ∧
    (compareR ⟨2, 2 * j, true⟩ (runM 3000 (startM (typedR l))) ((runM 3000 (startM (typedR l))).map (shiftE (2 * j)))).2 = true ∧
    (compareR ⟨2, max 0 (2 * j - 1), true⟩ (runM 3000 (startM (typedR l))) ((runM 3000 (startM (typedR l))).map (shiftE (2 * j)))).2 = decide ((2 * (j : Int)) = 0 ∨ (typedR l).length = 0) := by
  obtain ⟨h1, h2⟩ := typedR_facts l
  have h3 : (runM 3000 (startM (typedR l))).length = (typedR l).length := run_len 1180 3000 _ 0 0 0 (fun k hk => ⟨(h2 k hk).2.1, by have := h2 k hk; omega⟩) (by omega)
  refine ⟨run_moved j 3000 (fun k hk => (h2 k hk).1), h3, wide_yes (by omega) (run_kind _ _), ?_⟩
  rw [narrow_is (by omega) (run_kind _ _), h3]
/-- The screen after some events. -/
def screenR (L : List Ev) : List UInt8 := L.foldl (fun s e => if e.kd = 1 ∧ 0 ≤ e.a ∧ e.a < 80 then s.set e.a.toNat (UInt8.ofNat e.b.toNat) else s) (List.replicate 80 32)
theorem screen_shift (d : Int) (L : List Ev) : screenR (L.map (shiftE d)) = screenR L := by
  rw [screenR, screenR, List.foldl_map]
  rfl
/-- Keys that ascend. -/
def AscK (L : List Ev) : Prop := ∀ (i : Nat) (e f : Ev), L[i]? = some e → L[i + 1]? = some f → e.tm ≤ f.tm
theorem typedFrom_asc (l : List (Int × Int)) : ∀ t, AscK (typedFrom t l) := by
  induction l with
  | nil => intro t i e f h; simp [typedFrom] at h
  | cons p l ih =>
    intro t i e f he hf
    rw [typedFrom] at he hf
    cases i with
    | zero =>
      simp at he hf
      subst he
      exact (typedFrom_facts l _ f (List.mem_of_getElem? hf)).1
    | succ i =>
      rw [List.getElem?_cons_succ] at he hf
      exact ih _ i e f he hf
theorem AscK.shift {L : List Ev} (h : AscK L) (d : Int) : AscK (L.map (shiftE d)) := by
  intro i e f he hf
  rw [List.getElem?_map, Option.map_eq_some_iff] at he hf
  obtain ⟨x, hx, rfl⟩ := he
  obtain ⟨y, hy, rfl⟩ := hf
  have := h i x y hx hy
  simp only [shiftE]
  omega
/-- One key more, as the loop appends it. -/
def lastK (t : Int) (l : List (Int × Int)) : Int := l.foldl (fun t p => t + pick p.1 60) t
theorem typedFrom_snoc (l : List (Int × Int)) (p : Int × Int) : ∀ t, typedFrom t (l ++ [p]) = typedFrom t l ++ [⟨lastK t l + pick p.1 60, 5, 1 + pick p.2 255, 0⟩] := by
  induction l with
  | nil => intro t; rfl
  | cons q l ih =>
    intro t
    rw [List.cons_append, typedFrom, typedFrom, ih]
    rfl
theorem lastK_snoc (l : List (Int × Int)) (p : Int × Int) (t : Int) : lastK t (l ++ [p]) = lastK t l + pick p.1 60 := by rw [lastK, List.foldl_append]; rfl
theorem lastK_bound (l : List (Int × Int)) : ∀ t, t ≤ lastK t l ∧ lastK t l ≤ t + 59 * (l.length : Int) := by
  induction l with
  | nil => intro t; simp [lastK]
  | cons q l ih =>
    intro t
    have h1 := pick_lo (c := q.1) (n := 60) (by omega)
    have h2 := pick_hi (c := q.1) (n := 60) (by omega)
    have h3 := ih (t + pick q.1 60)
    rw [lastK, List.foldl_cons, ← lastK, List.length_cons]
    push_cast
    omega
/-- How many keys were taken and not yet copied. -/
def busy (m : Mac) : Int := if m.c = 4 ∨ m.c = 6 ∨ m.c = 8 ∨ m.c = 10 ∨ (m.c = 2 ∧ m.a ≠ 0) then 1 else 0
/-- What always holds of the computer: all numbers are bytes. -/
structure OkM (m : Mac) : Prop where
  n0 : 0 ≤ m.n
  a0 : 0 ≤ m.a ∧ m.a ≤ 255
  k : ∀ k ∈ m.keys, 1 ≤ k.a ∧ k.a ≤ 255
  l : m.n + m.keys.length + busy m ≤ 20
  e8 : m.c = 8 → m.a = m.n
  e10 : m.c = 10 → m.a = m.n + 1
  c : m.c = 0 ∨ m.c = 2 ∨ m.c = 4 ∨ m.c = 6 ∨ m.c = 8 ∨ m.c = 10 ∨ m.c = 12
theorem step_ok {m : Mac} (h : OkM m) : OkM (stepM m).1 := by
  obtain ⟨ks, n, a, c, t⟩ := m
  obtain ⟨h0, h1, h2, h3, h4, h5, h6⟩ := h
  simp only at h0 h1 h2 h4 h5 h6
  rcases h6 with rfl | rfl | rfl | rfl | rfl | rfl | rfl
  · cases ks with
    | nil => exact ⟨h0, by simp [stepM], (by intro k hk; cases hk), by simp [stepM, busy] at *; omega, by simp [stepM], by simp [stepM], by simp [stepM]⟩
    | cons k ks =>
      have hk := h2 k (List.mem_cons_self ..)
      simp only [stepM]
      split
      · exact ⟨h0, by simp only; omega, fun e he => h2 e (List.mem_cons_of_mem _ he), by simp [busy] at *; split <;> omega, by simp, by simp, by simp⟩
      · exact ⟨h0, by simp, h2, by simp [busy] at *; omega, by simp, by simp, by simp⟩
  · simp only [stepM]
    split
    · rename_i ha; exact ⟨h0, h1, h2, by simp [busy, ha] at *; omega, by simp, by simp, by simp⟩
    · rename_i ha; exact ⟨h0, h1, h2, by simp [busy, ha] at *; omega, by simp, by simp, by simp⟩
  · exact ⟨h0, h1, h2, by simp [busy, stepM] at *; omega, by simp [stepM], by simp [stepM], by simp [stepM]⟩
  · exact ⟨h0, by simp [busy, stepM] at *; omega, h2, by simp [busy, stepM] at *; omega, by simp [stepM], by simp [stepM], by simp [stepM]⟩
  · have := h4 rfl
    exact ⟨h0, by simp [busy, stepM] at *; omega, h2, by simp [busy, stepM] at *; omega, by simp [stepM], by simp [stepM]; omega, by simp [stepM]⟩
  · have := h5 rfl
    exact ⟨by simp [stepM]; omega, h1, h2, by simp [busy, stepM] at *; omega, by simp [stepM], by simp [stepM], by simp [stepM]⟩
  · exact ⟨h0, h1, h2, by simp [busy, stepM] at *; omega, by simp [stepM], by simp [stepM], by simp [stepM]⟩
theorem start_ok {ks : List Ev} (hl : ks.length ≤ 20) (hk : ∀ k ∈ ks, 1 ≤ k.a ∧ k.a ≤ 255) : OkM (startM ks) :=
  ⟨Int.le_refl _, by simp [startM], hk, by simp [startM, busy]; omega, by simp [startM], by simp [startM], by simp [startM]⟩
end Go.Proofs.YtinknenfhohamaaGreatDoor
