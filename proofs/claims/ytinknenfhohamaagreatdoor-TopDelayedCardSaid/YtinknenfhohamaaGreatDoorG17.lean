/- A region that draws its order: operations that yield one value in every world that meets a condition and that only add to the world, whenever they come up, beside operations that come in one order and may write. No program in sight. -/
import Derived.StillTail
import Derived.Deep.Quiet
import Derived.Below
namespace Go.Proofs.YtinknenfhohamaaGreatDoor
open Go Go.RowKit

section
variable {P : Program} {ops : Array Oper} {md : Region.Mode} {B : World → Prop}

/-- A world that meets the condition, and in which nothing has turned since s. -/
def CS (B : World → Prop) (s w : World) : Prop := B w ∧ Below s.heap.size s w
theorem CS.refl {w : World} (h : B w) : CS B w w := ⟨h, Below.refl _ _⟩
/-- What an operation that only adds to the world leaves. -/
def uponR (P : Program) (B : World → Prop) (w : World) (v : Value) : Result Next → Prop
  | .ok (.value u) w' => w' = w ∧ u = v
  | .ok .skip w' => w' = w ∧ v = undef
  | .ok (.enter f args) w' => w' = w ∧ Calls P f args w (fun e w'' => e = .returned v ∧ B w'' ∧ Below w.heap.size w w'')
  | _ => False
def quietR (P : Program) (o : Oper) (a : Act) (B : World → Prop) (w : World) (v : Value) : Prop := uponR P B w v ((execOp a.eval o).run P w)
def YR (P : Program) (ops : Array Oper) (B : World → Prop) (o : Oper) (v : Value) (a : Act) : Prop :=
  (Region.wanted o (yielded ops a.tmps) = true ∧ ∀ w, B w → quietR P o a B w v) ∨ (Region.wanted o (yielded ops a.tmps) = false ∧ v = undef)
/-- The walk of the head, in the order of the text. -/
def wpR (P : Program) (ops : Array Oper) (B : World → Prop) (L : Act → Prop) : List Oper → Act → Prop
  | [], a => L a
  | o :: rest, a => if Region.wanted o (yielded ops a.tmps) = true then ∃ v, (∀ w, B w → quietR P o a B w v) ∧ wpR P ops B L rest (a.put o.dst v) else wpR P ops B L rest (a.put o.dst undef)
theorem wpR_nil {L : Act → Prop} {a : Act} (h : L a) : wpR P ops B L [] a := h
/-- One operation of the head. -/
theorem wpR_step {L : Act → Prop} {a : Act} {o : Oper} {rest : List Oper} (h : ∀ K : Act → Prop, (∀ a, wpR P ops B L rest a → K a) → if Region.wanted o (yielded ops a.tmps) = true then ∃ v, (∀ w, B w → uponR P B w v ((execOp a.eval o).run P w)) ∧ K (a.put o.dst v) else K (a.put o.dst undef)) : wpR P ops B L (o :: rest) a := h _ (fun _ h => h)
theorem uponR_value {w : World} {v : Value} : uponR P B w v (.ok (.value v) w) := ⟨rfl, rfl⟩
theorem uponR_skip {w : World} : uponR P B w undef (.ok .skip w) := ⟨rfl, rfl⟩
theorem uponR_enter {w : World} {v : Value} {f : Nat} {args : Array Value} (h : Calls P f args w (fun e w'' => e = .returned v ∧ B w'' ∧ Below w.heap.size w w'')) : uponR P B w v (.ok (.enter f args) w) := ⟨rfl, h⟩

theorem YR.wpOp {i : Nat} {o : Oper} {v : Value} {a : Act} {s w : World} {K : Act → World → Prop} {Q : Exit → Act → World → Prop} (hi : ops[i]? = some o) (hy : YR P ops B o v a) (hw : CS B s w) (h : ∀ w', CS B s w' → K (a.put o.dst v) w') : wpOp P ops Q i K a w := by
  unfold Go.wpOp
  simp only [hi]
  rcases hy with ⟨hg, hv⟩ | ⟨hg, rfl⟩
  · simp only [hg, if_true]
    have h3 := hv w hw.1
    refine .inl ?_
    unfold quietR at h3
    unfold Oper.wp
    generalize (execOp a.eval o).run P w = r at h3
    match r, h3 with
    | .ok (.value u) w', h3 => obtain ⟨rfl, rfl⟩ := h3; exact h _ hw
    | .ok .skip w', h3 => obtain ⟨rfl, rfl⟩ := h3; exact h _ hw
    | .ok (.enter f args) w', h3 =>
      obtain ⟨rfl, hc⟩ := h3
      refine Calls.mono hc ?_
      rintro e w2 ⟨rfl, hb, hw2⟩
      exact h _ ⟨hb, hw.2.trans (hw2.mono hw.2.size)⟩
  · simp only [hg, Bool.false_eq_true, if_false]; exact h _ hw
theorem YR.put {oi : Oper} {v : Value} {a : Act} (hsi : ∀ cs b, oi.op ≠ .select cs b) (hy : YR P ops B oi v a) {d : Option Tmp} (u : Value) (h : ∀ t, d = some t → t ∉ oi.looksAt ops) : YR P ops B oi v (a.put d u) := by
  unfold YR quietR at *
  rw [execOp_put oi hsi a d u h, wanted_put oi a d u h]
  exact hy
/-- Another operation before or behind one of the head. -/
theorem wpOp_putR {j : Nat} {oi oj : Oper} {v : Value} {Q : Exit → Act → World → Prop} (hj : ops[j]? = some oj) (hap : oi.apart ops oj = true) (hsi : ∀ cs b, oi.op ≠ .select cs b) (hsj : ∀ cs b, oj.op ≠ .select cs b)
    (hQ : ∀ c a w, Q (.panic c) (a.put oi.dst v) w → Q (.panic c) a w) {K : Act → World → Prop} {a : Act} {w : World} (hy : YR P ops B oi v a) (h : wpOp P ops Q j K (a.put oi.dst v) w) :
    wpOp P ops Q j (fun a' w' => YR P ops B oi v a' ∧ K (a'.put oi.dst v) w') a w := by
  obtain ⟨p1, p2, p3⟩ := Oper.apart_spec hap
  have go : ∀ (b : Act) (u : Value) (w' : World), YR P ops B oi v b → K ((b.put oi.dst v).put oj.dst u) w' → YR P ops B oi v (b.put oj.dst u) ∧ K ((b.put oj.dst u).put oi.dst v) w' := fun b u w' hb hk =>
    ⟨hb.put hsi u p3, by rw [← Act.put_comm b v u p2]; exact hk⟩
  unfold wpOp at h ⊢
  simp only [hj, wanted_put oj a oi.dst v p1] at h ⊢
  by_cases hg : Region.wanted oj (yielded ops a.tmps) = true
  · simp only [hg, if_true] at h ⊢
    unfold Oper.asks Oper.wp at *
    rw [execOp_put oj hsj a oi.dst v p1] at h
    refine h.imp (fun h => ?_) id
    revert h
    generalize (execOp a.eval oj).run P w = r
    intro h
    match r with
    | .ok (.value u) w' => exact go a u w' hy h
    | .ok .skip w' => exact go a undef w' hy h
    | .ok (.defer d) w' =>
      refine go { a with defers := d :: a.defers } undef w' hy ?_
      rw [← Act.put_defers]; exact h
    | .ok (.enter f args) w' =>
      refine Calls.mono h ?_
      intro e w2 he
      cases e with
      | returned u => exact go a u w2 hy he
      | panicked c => exact hQ _ _ _ he
      | outgrown => exact he
    | .ok (.row row args) w' => exact Rows.mono h fun u w2 he => go a u w2 hy he
    | .halt x w' =>
      cases x with
      | panic u => exact hQ _ _ _ h
      | _ => exact h
  · simp only [hg] at h ⊢
    exact go a undef w hy h

def AllL (ops : Array Oper) (listed : Array Bool) : Prop := ∀ k, k < ops.size → listed.getD k true = true
theorem AllL.ready {listed : Array Bool} (h : AllL ops listed) : Region.ready md ops listed = [] := by
  rw [List.eq_nil_iff_forall_not_mem]
  intro i hi
  obtain ⟨h0, o, ho, -⟩ := mem_ready.1 hi
  rw [h i (Array.getElem?_eq_some_iff.1 ho).1] at h0
  cases h0
/-- Whatever comes up from here on; s: the world behind the last operation that may have written. -/
def wpS (P : Program) (md : Region.Mode) (ops : Array Oper) (B : World → Prop) (Q : Exit → Act → World → Prop) : Nat → Array Bool → Act → World → Prop
  | 0, listed, a, s => Region.ready md ops listed = [] ∧ ∀ w, CS B s w → Q .normal a w
  | f + 1, listed, a, s => ∀ w, CS B s w → Region.ready md ops listed ≠ [] ∧ ∀ i ∈ Region.ready md ops listed,
      wpOp P ops Q i (fun a' w' => (AllL ops (listed.setIfInBounds i true) ∧ Q .normal a' w') ∨ ∃ s', CS B s' w' ∧ wpS P md ops B Q f (listed.setIfInBounds i true) a' s') a w
theorem wpAny_of_wpS {Q : Exit → Act → World → Prop} : ∀ (f : Nat) (listed : Array Bool) (a : Act) (s w : World), CS B s w → wpS P md ops B Q f listed a s → wpAny P md ops Q f listed a w := by
  intro f
  induction f with
  | zero => intro listed a s w hw h; exact ⟨h.1, h.2 w hw⟩
  | succ f ih =>
    intro listed a s w hw h
    obtain ⟨h0, h1⟩ := h w hw
    refine ⟨fun he => absurd he h0, fun i hi => wpOp_mono (fun a' w' hk => ?_) (h1 i hi)⟩
    rcases hk with ⟨hl, hq⟩ | ⟨s', hs', hk⟩
    · cases f with
      | zero => exact ⟨hl.ready, hq⟩
      | succ f => exact ⟨fun _ => hq, by rw [hl.ready]; intro i hi; cases hi⟩
    · exact ih _ _ _ _ hs' hk
/-- What has come up has come up behind all that it waits for. -/
def Clo (md : Region.Mode) (ops : Array Oper) (listed : Array Bool) : Prop := listed.size = ops.size ∧ ∀ (j : Nat) oj, ops[j]? = some oj → listed.getD j false = true → ∀ e ∈ oj.after, Region.binds md e = true → listed.getD e.on false = true
theorem Clo.set {i : Nat} {listed : Array Bool} (h : Clo md ops listed) (hi : i ∈ Region.ready md ops listed) : Clo md ops (listed.setIfInBounds i true) := by
  obtain ⟨_, oi, hoi, hall⟩ := mem_ready.1 hi
  refine ⟨by simp [h.1], fun j oj hj hl e he hb => ?_⟩
  by_cases hij : i = j
  · subst hij
    rw [hoi] at hj
    cases hj
    exact getD_set_true (hall e he hb)
  · rw [getD_set_ne false hij] at hl
    exact getD_set_true (h.2 j oj hj hl e he hb)
theorem wpS.first {i : Nat} {oi : Oper} {v : Value} {Q : Exit → Act → World → Prop} (hi : ops[i]? = some oi) (hsel : ∀ (j : Nat) (o : Oper) cs b, ops[j]? = some o → o.op ≠ .select cs b)
    (hQ : ∀ c a w, Q (.panic c) (a.put oi.dst v) w → Q (.panic c) a w) (hsink : ∃ (k : Nat) (ok : Oper), ops[k]? = some ok ∧ ∃ e ∈ ok.after, Region.binds md e = true ∧ e.on = i) (f : Nat) : ∀ (listed : Array Bool) (a : Act) (s : World), Clo md ops listed →
      (∀ j oj, ops[j]? = some oj → j ≠ i → listed.getD j true = false → (∀ e ∈ oj.after, Region.binds md e = true → e.on ≠ i) → oi.apart ops oj = true) →
      i ∈ Region.ready md ops listed → YR P ops B oi v a → wpS P md ops B Q f (listed.setIfInBounds i true) (a.put oi.dst v) s → wpS P md ops B Q (f + 1) listed a s := by
  induction f with
  | zero =>
    intro listed a s _ _ hr hy H w hw
    refine ⟨(by intro h; rw [h] at hr; cases hr), fun j hj => ?_⟩
    by_cases hji : j = i
    · subst hji; exact hy.wpOp hi hw (fun w' hw' => .inr ⟨s, hw', H⟩)
    · have := ready_mono hj hji
      rw [H.1] at this
      cases this
  | succ f ih =>
    intro listed a s hcl hfree hr hy H w hw
    refine ⟨(by intro h; rw [h] at hr; cases hr), fun j hj => ?_⟩
    by_cases hji : j = i
    · subst hji; exact hy.wpOp hi hw (fun w' hw' => .inr ⟨s, hw', H⟩)
    have hiun := getD_both (mem_ready.1 hr).1
    obtain ⟨hjd, oj, hoj, hall⟩ := mem_ready.1 hj
    have hnot : ∀ e ∈ oj.after, Region.binds md e = true → e.on ≠ i := by
      intro e he hb heq
      have h1 := hall e he hb
      rw [heq, hiun] at h1
      cases h1
    have h2 := wpOp_putR hoj (hfree j oj hoj hji hjd hnot) (fun cs b => hsel i oi cs b hi) (fun cs b => hsel j oj cs b hoj) hQ hy ((H w hw).2 j (ready_mono hj hji))
    refine wpOp_mono ?_ h2
    rintro a' w' ⟨h3, ⟨hl, -⟩ | ⟨s', hs', h4⟩⟩
    · exfalso
      obtain ⟨k, ok, hok, e, he, hb, hon⟩ := hsink
      have hki : k ≠ i := by
        rintro rfl
        rw [hi] at hok
        cases hok
        have h5 := (mem_ready.1 hr).2
        obtain ⟨o', ho', hall'⟩ := h5
        rw [hi] at ho'
        cases ho'
        have := hall' e he hb
        rw [hon, hiun] at this
        cases this
      have hkj : k ≠ j := by
        rintro rfl
        rw [hoj] at hok
        cases hok
        exact hnot e he hb hon
      have hks := (Array.getElem?_eq_some_iff.1 hok).1
      have h5 := hl k hks
      rw [getD_set_ne true (Ne.symm hkj), getD_set_ne true (Ne.symm hki)] at h5
      have h6 : listed.getD k false = true := by
        have : k < listed.size := by rw [hcl.1]; exact hks
        simp [this] at h5 ⊢; exact h5
      have := hcl.2 k ok hok h6 e he hb
      rw [hon, hiun] at this
      cases this
    · refine .inr ⟨s', hs', ih _ a' s' (hcl.set hj) ?_ (ready_mono hr (Ne.symm hji)) h3 ?_⟩
      · intro k ok hk hki hkd hno
        refine hfree k ok hk hki ?_ hno
        by_cases hjk : j = k
        · rw [← hjk]; exact hjd
        · rwa [getD_set_ne true hjk] at hkd
      · rw [Array.setIfInBounds_comm _ _ hji]; exact h4

/-- What stands behind one operation. -/
def TQ (Q : Exit → Act → World → Prop) (K : Act → World → Prop) : Exit → Act → World → Prop
  | .normal, a, w => K a w
  | ex, a, w => Q ex a w
theorem TQ_normal {Q : Exit → Act → World → Prop} {K : Act → World → Prop} {a : Act} {w : World} (h : K a w) : TQ Q K .normal a w := h
theorem wp_of_TQ {Q : Exit → Act → World → Prop} {K K' : Act → World → Prop} {o : Oper} {a : Act} {w : World} (h : o.wp P a w K (TQ Q K')) : o.wp P a w K Q := by
  unfold Oper.wp at *
  revert h
  generalize (execOp a.eval o).run P w = r
  intro h
  match r with
  | .ok (.value u) w' => exact h
  | .ok .skip w' => exact h
  | .ok (.defer d) w' => exact h
  | .ok (.enter f args) w' =>
    refine Calls.mono h ?_
    intro e w2 he
    cases e with
    | returned u => exact he
    | panicked c => exact he
    | outgrown => exact he
  | .ok (.row row args) w' => exact h
  | .halt x w' =>
    cases x with
    | panic u => exact h
    | _ => exact h
/-- The operations behind the head, in their order; between two of them the world may be added to. -/
def wpT (P : Program) (ops : Array Oper) (B : World → Prop) (Q : Exit → Act → World → Prop) : List Oper → Act → World → Prop
  | [], _, _ => True
  | o :: rest, a, s => ∀ w, CS B s w → wpList P ops (TQ Q fun a' w' => if rest = [] then Q .normal a' w' else B w' ∧ wpT P ops B Q rest a' w') [o] a w
theorem wpT_more {Q : Exit → Act → World → Prop} {o o2 : Oper} {rest : List Oper} {a : Act} {s : World} (h : ∀ w, CS B s w → wpList P ops (TQ Q fun a' w' => B w' ∧ wpT P ops B Q (o2 :: rest) a' w') [o] a w) : wpT P ops B Q (o :: o2 :: rest) a s := by
  intro w hw
  simpa only [List.cons_ne_nil, reduceCtorEq, if_false] using h w hw
theorem wpT_last {Q : Exit → Act → World → Prop} {o : Oper} {a : Act} {s : World} (h : ∀ w, CS B s w → wpList P ops (TQ Q fun a' w' => Q .normal a' w') [o] a w) : wpT P ops B Q [o] a s := by
  intro w hw
  simpa only [if_true] using h w hw
theorem wpS_of_wpT {Q : Exit → Act → World → Prop} : ∀ (l : List Oper) (k : Nat) (listed : Array Bool) (a : Act) (s : World), (∀ j, l[j]? = ops[k + j]?) → k + l.length = ops.size → listed.size = ops.size → (∀ m, m < k → listed.getD m true = true) → l ≠ [] →
    Region.seqB md ops l.length k listed = true → wpT P ops B Q l a s → wpS P md ops B Q l.length listed a s
  | [], _, _, _, _, _, _, _, _, h0, _, _ => absurd rfl h0
  | o :: l, k, listed, a, s, hl, hk, hsz, hm, _, hB, h => by
    have h0 : ops[k]? = some o := by simpa using (hl 0).symm
    simp only [List.length_cons, Region.seqB, Bool.and_eq_true, decide_eq_true_eq] at hB
    intro w hw
    refine ⟨(by rw [hB.1]; simp), fun i hi => ?_⟩
    rw [hB.1] at hi
    have hik : i = k := by simpa using hi
    subst hik
    have h1 := h w hw
    have hm' : ∀ m, m < i + 1 → (listed.setIfInBounds i true).getD m true = true := by
      intro m hmi
      rcases Nat.lt_or_ge m i with h2 | h2
      · rw [getD_set_ne true (by omega)]; exact hm m h2
      · obtain rfl : m = i := by omega
        have : m < listed.size := by rw [hsz]; simp only [List.length_cons] at hk; omega
        simp [this]
    have key : ∀ a' w', (if l = [] then Q .normal a' w' else B w' ∧ wpT P ops B Q l a' w') → (AllL ops (listed.setIfInBounds i true) ∧ Q .normal a' w') ∨ ∃ s', CS B s' w' ∧ wpS P md ops B Q l.length (listed.setIfInBounds i true) a' s' := by
      intro a' w' hq
      by_cases hn : l = []
      · rw [if_pos hn] at hq
        subst hn
        refine .inl ⟨fun m hms => hm' m ?_, hq⟩
        simp at hk
        omega
      · rw [if_neg hn] at hq
        refine .inr ⟨w', CS.refl hq.1, wpS_of_wpT l (i + 1) _ a' w' (fun j => by have := hl (j + 1); simpa [Nat.add_assoc, Nat.add_comm 1 j] using this) (by simp only [List.length_cons] at hk; omega) (by simp [hsz]) hm' hn hB.2 hq.2⟩
    unfold wpOp
    simp only [h0]
    unfold wpList at h1
    by_cases hg : Region.wanted o (yielded ops a.tmps) = true
    · rw [if_pos hg] at h1 ⊢
      rcases h1 with h1 | ⟨h1, h2⟩
      · exact .inl (Oper.wp_mono (fun a' w' hq => key a' w' hq) (wp_of_TQ h1))
      · exact .inr ⟨h1, h2⟩
    · rw [if_neg hg] at h1 ⊢
      exact key _ _ h1
theorem wpS.lex {Q : Exit → Act → World → Prop} {g : Nat} {L : Act → Prop} (hsel : Region.noSelect ops = true) (hQ : ∀ c a w d v, Q (.panic c) (Act.put a d v) w → Q (.panic c) a w) (l : List Oper) : ∀ (k : Nat) (listed : Array Bool) (a : Act) (s : World), (∀ j, j < l.length → l[j]? = ops[k + j]?) →
    (∀ i, i < l.length → ∃ (m : Nat) (om : Oper), ops[m]? = some om ∧ ∃ e ∈ om.after, Region.binds md e = true ∧ e.on = k + i) → Clo md ops listed → (∀ m, m < k → listed.getD m true = true) → Region.lexHead md ops g l.length k listed = true → wpR P ops B L l a →
    (∀ d a', d.size = ops.size → (∀ m, m < k + l.length → d.getD m true = true) → Region.seqB md ops g (k + l.length) d = true → L a' → wpS P md ops B Q g d a' s) → wpS P md ops B Q (l.length + g) listed a s := by
  induction l with
  | nil =>
    intro k listed a s _ _ hcl hm hB h hL
    rw [List.length_nil, Nat.zero_add]
    exact hL listed a hcl.1 (by simpa using hm) (by simpa [Region.lexHead] using hB) h
  | cons o l ih =>
    intro k listed a s hl hsink hcl hm hB h hL
    have h0 : ops[k]? = some o := by have := hl 0 (by simp); simpa using this.symm
    simp only [List.length_cons, Region.lexHead, Bool.and_eq_true] at hB
    have hr : k ∈ Region.ready md ops listed := by simpa using hB.1.1
    obtain ⟨v, hy, hK⟩ : ∃ v, YR P ops B o v a ∧ wpR P ops B L l (a.put o.dst v) := by
      unfold wpR at h
      by_cases hg : Region.wanted o (yielded ops a.tmps) = true
      · rw [if_pos hg] at h
        obtain ⟨v, h1, h2⟩ := h
        exact ⟨v, .inl ⟨hg, h1⟩, h2⟩
      · rw [if_neg hg] at h
        exact ⟨undef, .inr ⟨by simpa using hg, rfl⟩, h⟩
    rw [List.length_cons, show l.length + 1 + g = l.length + g + 1 by omega]
    refine wpS.first h0 (Region.noSelect_spec hsel) (fun c a w => hQ c a w _ _) (hsink 0 (by simp)) _ listed a s hcl (Region.free_spec h0 hB.1.2) hr hy ?_
    refine ih (k + 1) _ _ s ?_ ?_ (hcl.set hr) ?_ hB.2 hK ?_
    · intro j hj
      have := hl (j + 1) (by simp; omega)
      rw [show k + 1 + j = k + (j + 1) by omega, ← this]
      simp
    · intro i hi
      have := hsink (i + 1) (by simp; omega)
      rw [show k + 1 + i = k + (i + 1) by omega]
      exact this
    · intro m hmk
      rcases Nat.lt_or_ge m k with h2 | h2
      · rw [getD_set_ne true (by omega)]; exact hm m h2
      · obtain rfl : m = k := by omega
        have : m < listed.size := by rw [hcl.1]; exact (Array.getElem?_eq_some_iff.1 h0).1
        simp [this]
    · intro d a' hd1 hd2 hd3 hL'
      exact hL d a' hd1 (by simpa [show k + (l.length + 1) = k + 1 + l.length by omega] using hd2) (by simpa [show k + (l.length + 1) = k + 1 + l.length by omega] using hd3) hL'
/-- What the kernel checks of a region: the head can come in the order of the text, something waits for each of its operations, and what is behind it comes in the order of the text. -/
def stageB (ops : Array Oper) (n : Nat) : Bool :=
  Region.noSelect ops && decide (n < ops.size) && ((List.range n).all fun i => (List.range ops.size).any fun j => Region.waitsFor .any ops j i) && Region.lexHead .any ops (ops.size - n) n 0 (Array.replicate ops.size false)
/-- One walk: n operations that yield one value whenever they come up, then the others, between which the world may be added to. -/
theorem region_stage {id : Nat} {Q : Exit → Act → World → Prop} {a : Act} {w : World} {l : List Oper} (n : Nat) (hm : P.follows .mixedOrders = true) (hB : stageB l.toArray n = true) (hQ : ∀ c a w d v, Q (.panic c) (Act.put a d v) w → Q (.panic c) a w) (hB0 : B w.drew)
    (h : wpR P l.toArray B (fun a' => wpT P l.toArray B Q (l.drop n) a' w.drew) (l.take n) a) : (Code.region id l.toArray true).wp P Q a w := by
  simp only [stageB, Bool.and_eq_true, decide_eq_true_eq] at hB
  obtain ⟨⟨⟨hsel, hn⟩, hs⟩, hlex⟩ := hB
  have hn' : n < l.length := by simpa using hn
  have htl : (l.take n).length = n := by simp; omega
  have hdl : (l.drop n).length = l.toArray.size - n := by simp
  refine wp_region_any hm ?_
  refine wpAny_of_wpS (B := B) _ _ _ w.drew _ (CS.refl hB0) ?_
  have := wpS.lex (md := .any) (g := l.toArray.size - n) (Q := Q) hsel hQ (l.take n) 0 (Array.replicate l.toArray.size false) a w.drew (by
    intro j hj
    rw [htl] at hj
    simp [hj]) (by
    intro i hi
    rw [htl] at hi
    have h1 := List.all_eq_true.1 hs i (List.mem_range.2 hi)
    obtain ⟨j, -, hj⟩ := List.any_eq_true.1 h1
    obtain ⟨oj, hoj, e, he, hb, hon⟩ := Region.waitsFor_spec hj
    exact ⟨j, oj, hoj, e, he, hb, by omega⟩) ⟨by simp, by
    intro j oj _ hj
    rw [getD_replicate_false] at hj
    cases hj⟩ (by intro m hm; omega) (by rw [htl]; exact hlex) h (by
    intro d a' hd1 hd2 hd3 hL'
    rw [htl, Nat.zero_add] at hd2 hd3
    have := wpS_of_wpT (md := .any) (l.drop n) n d a' w.drew (fun j => by simp [List.getElem?_drop]) (by rw [hdl]; omega) hd1 hd2 (by intro h0; rw [h0] at hdl; simp at hdl; omega) (by rw [hdl]; exact hd3) hL'
    rwa [hdl] at this)
  rw [htl, show n + (l.toArray.size - n) = l.toArray.size by omega] at this
  exact this
end
end Go.Proofs.YtinknenfhohamaaGreatDoor
