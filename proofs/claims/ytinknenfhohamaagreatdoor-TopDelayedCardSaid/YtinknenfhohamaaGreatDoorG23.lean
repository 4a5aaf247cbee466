/- The inputs of the statements on performances, as plain mathematics: Some, Near; and that a performance agrees with one near to it. No program in sight. What the statements on performances say, as plain mathematics. No program in sight. -/
import Derived.Test.YtinknenfhohamaaGreatDoorG22
namespace Go.Proofs.YtinknenfhohamaaGreatDoor

/-- An integer mapped to 0..n-1. -/
def pick (c n : Int) : Int := if c < 0 then (-(c + 1)) % n else c % n
theorem pick_lo {c n : Int} (hn : 1 ≤ n) : 0 ≤ pick c n := by unfold pick; split <;> exact Int.emod_nonneg _ (by omega)
theorem pick_hi {c n : Int} (hn : 1 ≤ n) : pick c n < n := by unfold pick; split <;> exact Int.emod_lt_of_pos _ (by omega)
/-- Four integers. -/
structure Qd where
  x : Int
  y : Int
  z : Int
  u : Int
def evQ (t : Int) (q : Qd) : Ev := ⟨t + pick q.x 9, 1 + pick q.y 5, pick q.z 3, pick q.u 2⟩
/-- What Some makes of integers. -/
def someFrom (t : Int) : List Qd → List Ev
  | [] => []
  | q :: X => evQ t q :: someFrom (t + pick q.x 9) X
def someOf (X : List Qd) : List Ev := someFrom 0 (X.take 30)
theorem someFrom_length (X : List Qd) : ∀ t, (someFrom t X).length = X.length := by
  induction X with
  | nil => intro t; rfl
  | cons q X ih => intro t; simp [someFrom, ih]
theorem someFrom_append (A B : List Qd) : ∀ t, someFrom t (A ++ B) = someFrom t A ++ someFrom (lastT t (someFrom t A)) B := by
  induction A with
  | nil => intro t; rfl
  | cons q A ih => intro t; simp only [List.cons_append, someFrom, ih, lastT]; rfl
theorem someFrom_snoc (A : List Qd) (q : Qd) (t : Int) : someFrom t (A ++ [q]) = someFrom t A ++ [evQ (lastT t (someFrom t A)) q] := by rw [someFrom_append]; rfl
theorem someOf_length (X : List Qd) : (someOf X).length ≤ 30 := by rw [someOf, someFrom_length, List.length_take]; omega
theorem evQ_facts (t : Int) (q : Qd) : t ≤ (evQ t q).tm ∧ (evQ t q).tm ≤ t + 8 ∧ (1 ≤ (evQ t q).kd ∧ (evQ t q).kd ≤ 5) ∧ (0 ≤ (evQ t q).a ∧ (evQ t q).a ≤ 2) ∧ (0 ≤ (evQ t q).b ∧ (evQ t q).b ≤ 1) := by
  have h1 := pick_lo (c := q.x) (n := 9) (by omega)
  have h2 := pick_hi (c := q.x) (n := 9) (by omega)
  have h3 := pick_lo (c := q.y) (n := 5) (by omega)
  have h4 := pick_hi (c := q.y) (n := 5) (by omega)
  have h5 := pick_lo (c := q.z) (n := 3) (by omega)
  have h6 := pick_hi (c := q.z) (n := 3) (by omega)
  have h7 := pick_lo (c := q.u) (n := 2) (by omega)
  have h8 := pick_hi (c := q.u) (n := 2) (by omega)
  simp only [evQ]
  omega
/-- Times that ascend, pair by pair. -/
def Asc (L : List Ev) : Prop := L.Pairwise fun x y => x.tm ≤ y.tm
theorem asc_ascB {L : List Ev} (h : Asc L) : ascB L = true := by
  rw [ascB_iff]
  intro k hk
  have := List.pairwise_iff_getElem.1 h k (k + 1) (by omega) hk (by omega)
  simpa [tmAt, List.getD_eq_getElem?_getD, List.getElem?_eq_getElem hk, List.getElem?_eq_getElem (show k < L.length by omega)] using this
/-- Events as small as Some makes them, with times up to a bound. -/
def Sml (m : Int) (L : List Ev) : Prop := ∀ e ∈ L, (0 ≤ e.tm ∧ e.tm ≤ m) ∧ (1 ≤ e.kd ∧ e.kd ≤ 5) ∧ (0 ≤ e.a ∧ e.a ≤ 2) ∧ (0 ≤ e.b ∧ e.b ≤ 1)
theorem someFrom_facts (X : List Qd) : ∀ t, 0 ≤ t → Asc (someFrom t X) ∧ (∀ e ∈ someFrom t X, t ≤ e.tm) ∧ Sml (t + 8 * X.length) (someFrom t X) := by
  induction X with
  | nil => intro t _; exact ⟨List.Pairwise.nil, by simp [someFrom], by intro e he; simp [someFrom] at he⟩
  | cons q X ih =>
    intro t ht
    obtain ⟨h1, h2, h3, h4, h5⟩ := evQ_facts t q
    have htm : (evQ t q).tm = t + pick q.x 9 := rfl
    obtain ⟨i1, i2, i3⟩ := ih (t + pick q.x 9) (by omega)
    refine ⟨List.pairwise_cons.2 ⟨fun e he => ?_, i1⟩, ?_, ?_⟩
    · rw [htm]; exact i2 e he
    · intro e he
      rcases List.mem_cons.1 he with rfl | he
      · exact h1
      · have := i2 e he; omega
    · intro e he
      rcases List.mem_cons.1 he with rfl | he
      · refine ⟨⟨by omega, ?_⟩, h3, h4, h5⟩
        simp only [List.length_cons]; omega
      · have := i3 e he
        simp only [List.length_cons]
        refine ⟨⟨this.1.1, by have := this.1.2; push_cast; omega⟩, this.2⟩
theorem someOf_facts (X : List Qd) : Asc (someOf X) ∧ Sml 240 (someOf X) := by
  obtain ⟨h1, -, h3⟩ := someFrom_facts (X.take 30) 0 (by omega)
  refine ⟨h1, fun e he => ?_⟩
  have h4 := h3 e he
  have : (X.take 30).length ≤ 30 := by rw [List.length_take]; omega
  exact ⟨⟨h4.1.1, by have := h4.1.2; omega⟩, h4.2⟩
theorem sml_valid {m : Int} {L : List Ev} (hl : L.length ≤ 1000) (ha : Asc L) (hs : Sml m L) (hm : m ≤ 20000) : validP L = true := by
  rw [validP_iff]
  refine ⟨hl, asc_ascB ha, fun e he => ?_⟩
  have := hs e he
  rw [okE_iff]
  omega
theorem Sml.mono {m m' : Int} {L : List Ev} (h : Sml m L) (hm : m ≤ m') : Sml m' L := fun e he => by have := h e he; exact ⟨⟨this.1.1, by have := this.1.2; omega⟩, this.2⟩

/-- An event, later or earlier by what an integer says. -/
def shift (s : Int) (e : Ev) : Option Int → Ev
  | none => e
  | some c => { e with tm := min (max (e.tm + pick c (2 * s + 1) - s) 0) 20000 }
/-- An event put in behind those that are not later, from the back. -/
def ins (x : Ev) (L : List Ev) (k : Nat) : List Ev := L.take k ++ x :: L.drop k
/-- The place for an event. -/
def place (x : Ev) (L : List Ev) : Nat → Nat
  | 0 => 0
  | k + 1 => if tmAt L k > x.tm then place x L k else k + 1
theorem place_le (x : Ev) (L : List Ev) : ∀ k, place x L k ≤ k
  | 0 => Nat.le_refl _
  | k + 1 => by unfold place; split; exact Nat.le_succ_of_le (place_le x L k); exact Nat.le_refl _
theorem place_hi (x : Ev) (L : List Ev) : ∀ k, ∀ j, place x L k ≤ j → j < k → x.tm < tmAt L j
  | 0, j, _, h => by omega
  | k + 1, j, h1, h2 => by
    unfold place at h1
    by_cases h : tmAt L k > x.tm
    · rw [if_pos h] at h1
      by_cases hj : j = k
      · subst hj; omega
      · exact place_hi x L k j h1 (by omega)
    · rw [if_neg h] at h1; omega
theorem place_lo (x : Ev) (L : List Ev) : ∀ k, 0 < place x L k → tmAt L (place x L k - 1) ≤ x.tm
  | 0, h => by simp [place] at h
  | k + 1, h => by
    unfold place at h ⊢
    by_cases hc : tmAt L k > x.tm
    · rw [if_pos hc] at h ⊢; exact place_lo x L k h
    · rw [if_neg hc]; simp only [Nat.add_sub_cancel]; omega
def insE (L : List Ev) (x : Ev) : List Ev := ins x L (place x L L.length)
def shifted (s : Int) (B : List Int) (L : List Ev) : List Ev := (List.range L.length).map fun i => shift s (L.getD i default) B[i]?
/-- What Near makes of a performance. -/
def nearOf (s : Int) (B : List Int) (L : List Ev) : List Ev := (shifted s B L).foldl insE []
theorem shifted_length (s : Int) (B : List Int) (L : List Ev) : (shifted s B L).length = L.length := by simp [shifted]
theorem shifted_at {s : Int} {B : List Int} {L : List Ev} {i : Nat} {e : Ev} (h : L[i]? = some e) : (shifted s B L)[i]? = some (shift s e B[i]?) := by
  have hi := (List.getElem?_eq_some_iff.1 h).1
  rw [shifted, List.getElem?_map, List.getElem?_range hi]
  simp [List.getD_eq_getElem?_getD, h]
theorem insE_perm (L : List Ev) (x : Ev) : (insE L x).Perm (x :: L) := by
  unfold insE ins
  have h := List.perm_middle (a := x) (l₁ := L.take (place x L L.length)) (l₂ := L.drop (place x L L.length))
  rwa [List.take_append_drop] at h
theorem getD_mem {L : List Ev} {k : Nat} (hk : k < L.length) : L.getD k default ∈ L := by
  rw [List.getD_eq_getElem?_getD, List.getElem?_eq_getElem hk]; exact List.getElem_mem hk
theorem asc_at {L : List Ev} (h : Asc L) {i j : Nat} (hij : i ≤ j) (hj : j < L.length) : tmAt L i ≤ tmAt L j := by
  rcases Nat.eq_or_lt_of_le hij with rfl | h2
  · exact Int.le_refl _
  · have := List.pairwise_iff_getElem.1 h i j (by omega) hj h2
    simpa [tmAt, List.getD_eq_getElem?_getD, List.getElem?_eq_getElem hj, List.getElem?_eq_getElem (show i < L.length by omega)] using this
theorem insE_asc {L : List Ev} {x : Ev} (h : Asc L) : Asc (insE L x) := by
  have hle := place_le x L L.length
  have hhi := place_hi x L L.length
  have hlo := place_lo x L L.length
  unfold insE ins
  generalize place x L L.length = k at *
  have h0 : Asc (L.take k ++ L.drop k) := by rw [List.take_append_drop]; exact h
  obtain ⟨h1, h2, h3⟩ := List.pairwise_append.1 h0
  have htk : ∀ e ∈ L.take k, e.tm ≤ x.tm := by
    intro e he
    obtain ⟨i, hi⟩ := List.getElem?_of_mem he
    have hik : i < k := by have := (List.getElem?_eq_some_iff.1 hi).1; rw [List.length_take] at this; omega
    rw [List.getElem?_take_of_lt hik] at hi
    have h4 : tmAt L i = e.tm := by simp [tmAt, List.getD_eq_getElem?_getD, hi]
    have := asc_at h (show i ≤ k - 1 by omega) (by omega)
    have := hlo (by omega)
    omega
  have hdr : ∀ e ∈ L.drop k, x.tm ≤ e.tm := by
    intro e he
    obtain ⟨i, hi⟩ := List.getElem?_of_mem he
    rw [List.getElem?_drop] at hi
    have hil := (List.getElem?_eq_some_iff.1 hi).1
    have h4 : tmAt L (k + i) = e.tm := by simp [tmAt, List.getD_eq_getElem?_getD, hi]
    have := hhi (k + i) (by omega) hil
    omega
  refine List.pairwise_append.2 ⟨h1, List.pairwise_cons.2 ⟨hdr, h2⟩, ?_⟩
  intro a ha b hb
  rcases List.mem_cons.1 hb with rfl | hb
  · exact htk a ha
  · exact h3 a ha b hb
theorem fold_facts (Y : List Ev) : ∀ O : List Ev, Asc O → Asc (Y.foldl insE O) ∧ (Y.foldl insE O).Perm (Y ++ O) := by
  induction Y with
  | nil => intro O h; exact ⟨h, List.Perm.refl _⟩
  | cons y Y ih =>
    intro O h
    obtain ⟨h1, h2⟩ := ih (insE O y) (insE_asc h)
    refine ⟨h1, h2.trans ?_⟩
    exact ((insE_perm O y).append_left Y).trans List.perm_middle
theorem nearOf_asc (s : Int) (B : List Int) (L : List Ev) : Asc (nearOf s B L) := (fold_facts _ [] List.Pairwise.nil).1
theorem nearOf_perm (s : Int) (B : List Int) (L : List Ev) : (nearOf s B L).Perm (shifted s B L) := by
  have := (fold_facts (shifted s B L) [] List.Pairwise.nil).2
  rwa [List.append_nil] at this
theorem nearOf_length (s : Int) (B : List Int) (L : List Ev) : (nearOf s B L).length = L.length := by rw [(nearOf_perm s B L).length_eq, shifted_length]
theorem shift_facts {s : Int} (hs : 0 ≤ s) {e : Ev} (b : Option Int) (he : 0 ≤ e.tm ∧ e.tm ≤ 20000) : cls (shift s e b) = cls e ∧ (shift s e b).tm ≤ e.tm + s ∧ e.tm ≤ (shift s e b).tm + s ∧ 0 ≤ (shift s e b).tm ∧ (shift s e b).tm ≤ 20000 := by
  cases b with
  | none => refine ⟨rfl, ?_⟩; simp only [shift]; omega
  | some c =>
    have h1 := pick_lo (c := c) (n := 2 * s + 1) (by omega)
    have h2 := pick_hi (c := c) (n := 2 * s + 1) (by omega)
    refine ⟨rfl, ?_⟩
    simp only [shift]
    omega
theorem shift_kd {s : Int} {e : Ev} (b : Option Int) : (shift s e b).kd = e.kd ∧ (shift s e b).a = e.a ∧ (shift s e b).b = e.b := by cases b <;> exact ⟨rfl, rfl, rfl⟩
theorem nearOf_sml {s m : Int} {B : List Int} {L : List Ev} (hs : 0 ≤ s) (h : Sml m L) (hm : m + s ≤ 20000) : Sml (m + s) (nearOf s B L) := by
  intro e he
  have he := (nearOf_perm s B L).mem_iff.1 he
  obtain ⟨i, hi⟩ := List.getElem?_of_mem he
  have hl := (List.getElem?_eq_some_iff.1 hi).1
  rw [shifted_length] at hl
  obtain ⟨f, hf⟩ : ∃ f, L[i]? = some f := ⟨_, List.getElem?_eq_getElem hl⟩
  rw [shifted_at hf] at hi
  injection hi with hi
  have h1 := h f (List.mem_of_getElem? hf)
  obtain ⟨k1, k2, k3⟩ := shift_kd (s := s) (e := f) B[i]?
  obtain ⟨-, g1, g2, g3, g4⟩ := shift_facts hs (e := f) B[i]? (by omega)
  rw [hi] at k1 k2 k3 g1 g2 g3 g4
  rw [k1, k2, k3]
  exact ⟨⟨g3, by have := h1.1.2; omega⟩, h1.2⟩

/-- Two lists, event by event of one class and no further apart than a slack. -/
def Pt (s : Int) : List Ev → List Ev → Prop
  | [], [] => True
  | x :: c, y :: d => (cls x = cls y ∧ x.tm ≤ y.tm + s ∧ y.tm ≤ x.tm + s) ∧ Pt s c d
  | _, _ => False
theorem cnt_cls (r : Rel) {x y : Ev} (h : cls x = cls y) : cnt r x = cnt r y := by
  have : x.kd = y.kd := congrArg Prod.fst h
  simp only [cnt, this]
theorem Pt.filter {s : Int} (r : Rel) : ∀ {c d : List Ev}, Pt s c d → Pt s (c.filter (cnt r)) (d.filter (cnt r))
  | [], [], _ => trivial
  | x :: c, y :: d, h => by
    have h1 := cnt_cls r h.1.1
    cases hx : cnt r x with
    | true => rw [List.filter_cons_of_pos hx, List.filter_cons_of_pos (by rw [← h1, hx])]; exact ⟨h.1, Pt.filter r h.2⟩
    | false => rw [List.filter_cons_of_neg (by simp [hx]), List.filter_cons_of_neg (by simp [← h1, hx])]; exact Pt.filter r h.2
  | [], _ :: _, h => h.elim
  | _ :: _, [], h => h.elim
theorem Pt.agU {s : Int} : ∀ {c d : List Ev}, Pt s c d → AgU s c d
  | [], [], _ => fun q => ⟨rfl, fun t => by simp [cl]⟩
  | x :: c, y :: d, h => fun q => by
    obtain ⟨h1, h2⟩ := Pt.agU h.2 q
    unfold cn cl at *
    simp only [List.countP_cons]
    have hc : (decide (cls x = q)) = (decide (cls y = q)) := by rw [h.1.1]
    refine ⟨by rw [h1, hc], fun t => ?_⟩
    have h3 := h2 t
    rw [hc]
    have e1 : (if (decide (cls y = q) && decide (x.tm ≤ t)) = true then 1 else 0) ≤ (if (decide (cls y = q) && decide (y.tm ≤ t + s)) = true then 1 else 0) := by
      cases decide (cls y = q) with
      | false => simp
      | true =>
        by_cases hx : x.tm ≤ t
        · have : y.tm ≤ t + s := by have := h.1.2; omega
          simp [this]; split <;> omega
        · simp [hx]
    have e2 : (if (decide (cls y = q) && decide (y.tm ≤ t)) = true then 1 else 0) ≤ (if (decide (cls y = q) && decide (x.tm ≤ t + s)) = true then 1 else 0) := by
      cases decide (cls y = q) with
      | false => simp
      | true =>
        by_cases hx : y.tm ≤ t
        · have : x.tm ≤ t + s := by have := h.1.2; omega
          simp [this]; split <;> omega
        · simp [hx]
    omega
  | [], _ :: _, h => h.elim
  | _ :: _, [], h => h.elim
theorem pt_of {s : Int} : ∀ {c d : List Ev}, c.length = d.length → (∀ (i : Nat) (x y : Ev), c[i]? = some x → d[i]? = some y → cls x = cls y ∧ x.tm ≤ y.tm + s ∧ y.tm ≤ x.tm + s) → Pt s c d
  | [], [], _, _ => trivial
  | x :: c, y :: d, hl, h => ⟨h 0 x y rfl rfl, pt_of (by simpa using hl) (fun i a b ha hb => h (i + 1) a b (by simpa using ha) (by simpa using hb))⟩
  | [], _ :: _, h, _ => by simp at h
  | _ :: _, [], h, _ => by simp at h
/-- A performance agrees, without an order, with what is near to it. -/
theorem near_agU (r : Rel) {s : Int} {B : List Int} {L : List Ev} (hs : 0 ≤ s) (h : ∀ e ∈ L, 0 ≤ e.tm ∧ e.tm ≤ 20000) : AgU s (L.filter (cnt r)) ((nearOf s B L).filter (cnt r)) := by
  have h1 : Pt s L (shifted s B L) := pt_of (shifted_length s B L).symm (by
    intro i x y hx hy
    rw [shifted_at hx] at hy
    injection hy with hy
    obtain ⟨h1, h2, h3, -, -⟩ := shift_facts hs B[i]? (h x (List.mem_of_getElem? hx))
    rw [hy] at h1 h2 h3
    exact ⟨h1.symm, h3, h2⟩)
  exact (h1.filter r).agU.perm ((nearOf_perm s B L).symm.filter _)
end Go.Proofs.YtinknenfhohamaaGreatDoor

namespace Go.Proofs.YtinknenfhohamaaGreatDoor

theorem Pt.mono {s u : Int} (hs : s ≤ u) : ∀ {c d : List Ev}, Pt s c d → Pt u c d
  | [], [], _ => trivial
  | _ :: _, _ :: _, h => ⟨⟨h.1.1, by have := h.1.2.1; omega, by have := h.1.2.2; omega⟩, Pt.mono hs h.2⟩
  | [], _ :: _, h => h.elim
  | _ :: _, [], h => h.elim
theorem Pt.refl {s : Int} (hs : 0 ≤ s) : ∀ (c : List Ev), Pt s c c
  | [] => trivial
  | _ :: c => ⟨⟨rfl, by omega, by omega⟩, Pt.refl hs c⟩
theorem Pt.symm {s : Int} : ∀ {c d : List Ev}, Pt s c d → Pt s d c
  | [], [], _ => trivial
  | _ :: _, _ :: _, h => ⟨⟨h.1.1.symm, h.1.2.2, h.1.2.1⟩, Pt.symm h.2⟩
  | [], _ :: _, h => h.elim
  | _ :: _, [], h => h.elim
theorem Pt.trans {s u : Int} : ∀ {c d e : List Ev}, Pt s c d → Pt u d e → Pt (s + u) c e
  | [], [], [], _, _ => trivial
  | _ :: _, _ :: _, _ :: _, h, g => ⟨⟨h.1.1.trans g.1.1, by have := h.1.2.1; have := g.1.2.1; omega, by have := h.1.2.2; have := g.1.2.2; omega⟩, Pt.trans h.2 g.2⟩
  | [], _ :: _, _, h, _ => h.elim
  | _ :: _, [], _, h, _ => h.elim
  | _, [], _ :: _, _, g => g.elim
  | _, _ :: _, [], _, g => g.elim
theorem agO_pt {r : Rel} : ∀ {c d : List Ev}, AgO r c d ↔ Pt r.slack c d
  | [], [] => Iff.rfl
  | x :: c, y :: d => by
    rw [AgO, Pt, agO_pt (c := c) (d := d), alike, Bool.and_eq_true, decide_eq_true_eq, near_iff]
  | [], _ :: _ => Iff.rfl
  | _ :: _, [] => Iff.rfl
theorem agr_iff' {r : Rel} (hr : validR r = true) (a b : List Ev) : agr r a b = true ↔ if r.ord then Pt r.slack (counted r a) (counted r b) else AgU r.slack (counted r a) (counted r b) := by
  rw [agr_iff hr, agO_pt]
theorem counted_eq {r : Rel} (hr : validR r = true) (L : List Ev) : counted r L = L.filter (cnt r) := by rw [counted, if_pos hr]
/-- A relation that three integers determine. -/
def relOf (x y z : Int) : Rel := ⟨2 * pick x 32, pick y 6, decide (pick z 2 = 0)⟩
theorem relOf_slack (x y z : Int) : 0 ≤ (relOf x y z).slack ∧ (relOf x y z).slack ≤ 5 := by
  have h3 := pick_lo (c := y) (n := 6) (by omega)
  have h4 := pick_hi (c := y) (n := 6) (by omega)
  exact ⟨h3, by show pick y 6 ≤ 5; omega⟩
theorem relOf_valid (x y z : Int) : validR (relOf x y z) = true := by
  have h1 := pick_lo (c := x) (n := 32) (by omega)
  have h2 := pick_hi (c := x) (n := 32) (by omega)
  have h3 := relOf_slack x y z
  rw [validR_iff]
  refine ⟨by show 0 ≤ 2 * pick x 32; omega, by show 2 * pick x 32 ≤ 62; omega, by show 2 * pick x 32 % 2 = 0; omega, h3.1, by omega⟩
theorem valid_with {r : Rel} (hr : validR r = true) (s : Int) (hs : 0 ≤ s ∧ s ≤ 20000) (o : Bool) : validR ⟨r.kinds, s, o⟩ = true := by
  rw [validR_iff] at hr ⊢
  exact ⟨hr.1, hr.2.1, hr.2.2.1, hs.1, hs.2⟩
theorem counted_with {r : Rel} (hr : validR r = true) (s : Int) (hs : 0 ≤ s ∧ s ≤ 20000) (o : Bool) (L : List Ev) : counted ⟨r.kinds, s, o⟩ L = counted r L := by
  rw [counted_eq hr, counted_eq (valid_with hr s hs o)]; rfl

/-! ### Chain -/
theorem agr_refl {r : Rel} (hr : validR r = true) (a : List Ev) : agr r a a = true := by
  have h0 := ((validR_iff r).1 hr).2.2.2.1
  rw [agr_iff' hr]
  split
  · exact Pt.refl h0 _
  · exact AgU.refl _ h0 _
theorem agr_symm {r : Rel} (hr : validR r = true) (a b : List Ev) : agr r a b = agr r b a := by
  have key : ∀ a b, agr r a b = true → agr r b a = true := by
    intro a b h
    rw [agr_iff' hr] at h ⊢
    split
    · rename_i ho; rw [if_pos ho] at h; exact h.symm
    · rename_i ho; rw [if_neg ho] at h; exact h.symm
  rw [Bool.eq_iff_iff]
  exact ⟨key a b, key b a⟩
theorem agr_chain {r : Rel} (hr : validR r = true) {u : Int} (h0 : 0 ≤ u) (h1 : r.slack + u ≤ 20000) {a b c : List Ev} (hab : agr r a b = true) (hbc : agr ⟨r.kinds, u, r.ord⟩ b c = true) : agr ⟨r.kinds, r.slack + u, r.ord⟩ a c = true := by
  have hs := (validR_iff r).1 hr
  have hv1 := valid_with hr u (by omega) r.ord
  have hv2 := valid_with hr (r.slack + u) (by omega) r.ord
  rw [agr_iff' hr] at hab
  have e1 : ∀ L, counted ⟨r.kinds, u, r.ord⟩ L = counted r L := counted_with hr u (by omega) r.ord
  have e2 : ∀ L, counted ⟨r.kinds, r.slack + u, r.ord⟩ L = counted r L := counted_with hr (r.slack + u) (by omega) r.ord
  rw [agr_iff' hv1, e1, e1] at hbc
  rw [agr_iff' hv2, e2, e2]
  clear e1 e2
  cases ho : r.ord with
  | true =>
    rw [ho] at hab hbc
    rw [if_pos rfl] at hab hbc ⊢
    exact hab.trans hbc
  | false =>
    rw [ho] at hab hbc
    rw [if_neg (by simp)] at hab hbc ⊢
    exact hab.trans hbc
theorem agr_near {r : Rel} (hr : validR r = true) (ho : r.ord = false) {B : List Int} {L : List Ev} (h : ∀ e ∈ L, 0 ≤ e.tm ∧ e.tm ≤ 20000) : agr r L (nearOf r.slack B L) = true := by
  rw [agr_iff' hr, if_neg (by simp [ho]), counted_eq hr, counted_eq hr]
  exact near_agU r ((validR_iff r).1 hr).2.2.2.1 h

/-! ### Paired -/
theorem agU_len {s : Int} {c d : List Ev} (h : AgU s c d) : c.length = d.length := by
  have hp : (c.map cls).Perm (d.map cls) := List.perm_iff_count.2 (fun q => by rw [← cn_count, ← cn_count]; exact (h q).1)
  have := hp.length_eq
  simpa using this
theorem agr_count {r : Rel} (hr : validR r = true) (ho : r.ord = false) {a b c : List Ev} (hab : agr r a b = true) (e : Ev)
    (hf : cnt r e = false → c.filter (cnt r) = b.filter (cnt r)) (ht : cnt r e = true → ∃ q, cn (c.filter (cnt r)) q ≠ cn (b.filter (cnt r)) q) : agr r a c = !cnt r e := by
  rw [agr_iff' hr, if_neg (by simp [ho]), counted_eq hr, counted_eq hr] at hab
  cases hc : cnt r e with
  | false =>
    rw [Bool.not_false, agr_iff' hr, if_neg (by simp [ho]), counted_eq hr, counted_eq hr, hf hc]
    exact hab
  | true =>
    obtain ⟨q, hq⟩ := ht hc
    rw [Bool.not_true, ← Bool.not_eq_true, agr_iff' hr, if_neg (by simp [ho]), counted_eq hr, counted_eq hr]
    intro h
    exact hq ((h q).1.symm.trans (hab q).1)
theorem split_at {L : List Ev} {k : Nat} {e : Ev} (h : L[k]? = some e) : L = L.take k ++ e :: L.drop (k + 1) := by
  obtain ⟨hl, he⟩ := List.getElem?_eq_some_iff.1 h
  rw [← he, ← List.drop_eq_getElem_cons hl, List.take_append_drop]
theorem cn_append (A B : List Ev) (q : Int × Int × Int) : cn (A ++ B) q = cn A q + cn B q := List.countP_append
theorem cn_one (e : Ev) (q : Int × Int × Int) : cn [e] q = if cls e = q then 1 else 0 := by
  unfold cn
  rw [List.countP_cons, List.countP_nil]
  by_cases h : cls e = q <;> simp [h]
theorem paired_less {r : Rel} (hr : validR r = true) (ho : r.ord = false) {a b : List Ev} (hab : agr r a b = true) {k : Nat} {e : Ev} (h : b[k]? = some e) : agr r a (b.take k ++ b.drop (k + 1)) = !cnt r e := by
  refine agr_count hr ho hab e (fun hc => ?_) (fun hc => ⟨cls e, ?_⟩)
  · conv => rhs; rw [split_at h]
    rw [List.filter_append, List.filter_append, List.filter_cons_of_neg (by simp [hc])]
  · conv => rhs; rw [split_at h]
    rw [List.filter_append, List.filter_append, List.filter_cons_of_pos hc, cn_append, cn_append, ← List.singleton_append, cn_append, cn_one, if_pos rfl]
    omega
theorem paired_more {r : Rel} (hr : validR r = true) (ho : r.ord = false) {a b : List Ev} (hab : agr r a b = true) {e : Ev} : agr r a (b ++ [e]) = !cnt r e := by
  refine agr_count hr ho hab e (fun hc => ?_) (fun hc => ⟨cls e, ?_⟩)
  · rw [List.filter_append, List.filter_cons_of_neg (by simp [hc]), List.filter_nil, List.append_nil]
  · rw [List.filter_append, List.filter_cons_of_pos hc, List.filter_nil, cn_append, cn_one, if_pos rfl]
    omega
theorem paired_other {r : Rel} (hr : validR r = true) (ho : r.ord = false) {a b : List Ev} (hab : agr r a b = true) {k : Nat} {e f : Ev} (h : b[k]? = some e) (hf : cnt r f = cnt r e) (hne : cls f ≠ cls e) : agr r a (b.take k ++ f :: b.drop (k + 1)) = !cnt r e := by
  refine agr_count hr ho hab e (fun hc => ?_) (fun hc => ⟨cls e, ?_⟩)
  · conv => rhs; rw [split_at h]
    rw [List.filter_append, List.filter_append, List.filter_cons_of_neg (a := e) (by simp [hc]), List.filter_cons_of_neg (by simp [hf, hc])]
  · conv => rhs; rw [split_at h]
    rw [List.filter_append, List.filter_append, List.filter_cons_of_pos hc, List.filter_cons_of_pos (by rw [hf, hc]), cn_append, cn_append, ← List.singleton_append, cn_append, ← List.singleton_append (l := List.filter (cnt r) (List.drop (k + 1) b)) (x := e), cn_append, cn_one, cn_one, if_pos rfl, if_neg hne]
    omega

/-! ### Ordered -/
theorem ordered_at {r : Rel} (hr : validR r = true) (ho : r.ord = true) {a b : List Ev} {n : Nat} (hc : n ≤ (counted r a).length) (hd : n ≤ (counted r b).length)
    (h : ∀ i, i < n → alike r ((counted r a).getD i default) ((counted r b).getD i default) = true)
    (hx : n < (counted r a).length → n < (counted r b).length → alike r ((counted r a).getD n default) ((counted r b).getD n default) = false) :
    compareR r a b = if n = (counted r a).length ∧ n = (counted r b).length then (0, true) else ((n : Int), false) := by
  rw [compareR, if_pos hr]
  generalize counted r a = c at *
  generalize counted r b = d at *
  have hfit : ∀ i, i < n → fits r c d i = true := fun i hi => by
    rw [fits, if_pos ho, h i hi, decide_eq_true (by omega)]; rfl
  by_cases hn : n < c.length
  · have hbad : fits r c d n = false := by
      rw [fits, if_pos ho]
      by_cases hnd : n < d.length
      · rw [hx hn hnd, Bool.and_false]
      · rw [decide_eq_false hnd, Bool.false_and]
    have : firstBad r c d = some n := by
      unfold firstBad
      rw [List.find?_range_eq_some]
      refine ⟨by simp [hbad], by simpa using hn, fun i hi => by simp [hfit i hi]⟩
    rw [this]
    simp only
    rw [if_neg (show ¬ (n = c.length ∧ n = d.length) from fun hx => by omega)]
  · have hnc : n = c.length := by omega
    have : firstBad r c d = none := firstBad_none.2 (fun i hi => hfit i (by omega))
    rw [this]
    simp only
    by_cases hl : c.length = d.length
    · rw [if_pos hl, if_pos ⟨hnc, by omega⟩]
    · rw [if_neg hl, if_neg (show ¬ (n = c.length ∧ n = d.length) from fun hx => by omega), hnc]

/-! ### Weaker -/
def cntk (r : Rel) (k : Int) : Bool := decide (1 ≤ k ∧ k ≤ 5) && decide (r.kinds / 2 ^ k.toNat % 2 = 1)
theorem cnt_k (r : Rel) (e : Ev) : cnt r e = cntk r e.kd := rfl
theorem filter_count (r : Rel) (L : List Ev) (q : Int × Int × Int) (p : Ev → Bool) : (L.filter (cnt r)).countP (fun e => decide (cls e = q) && p e) = if cntk r q.1 then L.countP (fun e => decide (cls e = q) && p e) else 0 := by
  rw [List.countP_filter]
  cases hk : cntk r q.1 with
  | true =>
    rw [if_pos rfl]
    apply List.countP_congr
    intro e _
    by_cases hc : cls e = q
    · have : cnt r e = true := by rw [cnt_k, show e.kd = q.1 from congrArg Prod.fst hc, hk]
      simp [this]
    · simp [hc]
  | false =>
    rw [if_neg (by simp), List.countP_eq_zero]
    intro e _
    by_cases hc : cls e = q
    · have : cnt r e = false := by rw [cnt_k, show e.kd = q.1 from congrArg Prod.fst hc, hk]
      simp [this]
    · simp [hc]
theorem cn_cl (L : List Ev) (q : Int × Int × Int) : cn L q = L.countP (fun e => decide (cls e = q) && true) := by
  unfold cn; congr 1; funext e; simp
theorem AgU.filter {s : Int} {c d : List Ev} (r : Rel) (h : AgU s c d) : AgU s (c.filter (cnt r)) (d.filter (cnt r)) := fun q => by
  obtain ⟨h1, h2⟩ := h q
  refine ⟨?_, fun t => ?_⟩
  · rw [cn_cl, cn_cl, filter_count, filter_count, ← cn_cl, ← cn_cl, h1]
  · have := h2 t
    unfold cl at *
    rw [filter_count, filter_count, filter_count, filter_count]
    split <;> omega
theorem agr_weaker {r s : Rel} {a b : List Ev} (hw : weaker r s = true) (h : agr r a b = true) : agr s a b = true := by
  simp only [weaker, Bool.and_eq_true, Bool.or_eq_true, decide_eq_true_eq] at hw
  obtain ⟨⟨hr, hs⟩, hw⟩ := hw
  rw [agr_iff' hr, counted_eq hr, counted_eq hr] at h
  rw [agr_iff' hs, counted_eq hs, counted_eq hs]
  rcases hw with h0 | ⟨⟨h1, h2⟩, h3⟩
  · have hz : ∀ L : List Ev, L.filter (cnt s) = [] := by
      intro L
      rw [List.filter_eq_nil_iff]
      intro e _
      simp [cnt, h0]
    rw [hz, hz]
    split
    · exact trivial
    · exact AgU.refl _ ((validR_iff s).1 hs).2.2.2.1 _
  · have hsub : ∀ e, cnt s e = true → cnt r e = true := by
      intro e he
      simp only [cnt, Bool.and_eq_true, decide_eq_true_eq] at he ⊢
      refine ⟨he.1, h1 ⟨e.kd.toNat, by omega⟩ he.2⟩
    have hff : ∀ L : List Ev, L.filter (cnt s) = (L.filter (cnt r)).filter (cnt s) := by
      intro L
      rw [List.filter_filter]
      apply List.filter_congr
      intro e _
      cases hse : cnt s e with
      | false => simp
      | true => simp [hsub e hse]
    rw [hff, hff b]
    cases ho : r.ord with
    | true =>
      rw [if_pos ho] at h
      have h4 := (h.filter s).mono h2
      split
      · exact h4
      · exact h4.agU
    | false =>
      rw [if_neg (by simp [ho])] at h
      have hso : s.ord = false := by
        rcases h3 with h3 | h3
        · rw [ho] at h3; cases h3
        · simpa using h3
      rw [if_neg (by simp [hso])]
      exact (h.filter s).mono h2

/-! ### Ignored -/
theorem counted_twice (r : Rel) (L : List Ev) : counted r (counted r L) = counted r L := by
  unfold counted
  split
  · rw [List.filter_filter]; simp
  · rfl
theorem compare_counted (r : Rel) (a b : List Ev) : compareR r (counted r a) (counted r b) = compareR r a b := by
  rw [compareR, compareR, counted_twice, counted_twice]
def strictR : Rel := ⟨62, 0, true⟩
theorem bits62 : ∀ k : Fin 6, 1 ≤ k.val → (62 : Int) / 2 ^ k.val % 2 = 1 := by decide
theorem strict_counted {L : List Ev} (hv : validP L = true) : counted strictR L = L := by
  have : validR strictR = true := by decide
  rw [counted_eq this, List.filter_eq_self]
  intro e he
  have := okE_iff.1 ((validP_iff.1 hv).2.2 e he)
  simp only [cnt, Bool.and_eq_true, decide_eq_true_eq]
  exact ⟨this.2.1, bits62 ⟨e.kd.toNat, by omega⟩ (by simp; omega)⟩
theorem pt_zero : ∀ {c d : List Ev}, Pt 0 c d ↔ c = d
  | [], [] => by simp [Pt]
  | x :: c, y :: d => by
    rw [Pt, pt_zero]
    constructor
    · rintro ⟨⟨h1, h2, h3⟩, rfl⟩
      have : x = y := by
        simp only [cls, Prod.mk.injEq] at h1
        cases x; cases y
        simp only at h1 h2 h3
        simp only [Ev.mk.injEq]
        omega
      rw [this]
    · intro h
      injection h with h1 h2
      subst h1 h2
      exact ⟨⟨rfl, by omega, by omega⟩, rfl⟩
  | [], _ :: _ => by simp [Pt]
  | _ :: _, [] => by simp [Pt]
theorem strict_iff {a b : List Ev} (ha : validP a = true) (hb : validP b = true) : agr strictR a b = decide (encE a = encE b) := by
  rw [Bool.eq_iff_iff, agr_iff' (by decide), strict_counted ha, strict_counted hb, decide_eq_true_eq]
  rw [if_pos (show strictR.ord = true from rfl)]
  constructor
  · intro h; rw [pt_zero.1 h]
  · intro h; exact pt_zero.2 (encE_inj ha hb h)

/-! ### Exactly -/
def sbit (r : Rel) (k : Nat) : Bool := decide (r.kinds / 2 ^ k % 2 = 1)
theorem cnt_bit (r : Rel) {k : Nat} (h : 1 ≤ k ∧ k ≤ 5) (t x y : Int) : cnt r ⟨t, k, x, y⟩ = sbit r k := by
  simp only [cnt, sbit, Int.toNat_natCast]
  rw [decide_eq_true (by omega), Bool.true_and]
theorem exact_kind {r s : Rel} (hr : validR r = true) (hs : validR s = true) {k : Nat} (hk : 1 ≤ k ∧ k ≤ 5) (h1 : sbit s k = true) (h2 : sbit r k = false) : agr r [⟨0, k, 0, 0⟩] [] = true ∧ agr s [⟨0, k, 0, 0⟩] [] = false := by
  constructor
  · rw [agr_iff' hr, counted_eq hr, counted_eq hr, List.filter_cons_of_neg (by rw [cnt_bit r hk, h2]; simp), List.filter_nil]
    split
    · exact trivial
    · exact AgU.refl _ ((validR_iff r).1 hr).2.2.2.1 _
  · rw [← Bool.not_eq_true, agr_iff' hs, counted_eq hs, counted_eq hs, List.filter_cons_of_pos (by rw [cnt_bit s hk, h1]), List.filter_nil]
    split
    · exact fun h => h
    · exact fun h => by have := agU_len h; simp at this
theorem exact_slack {r s : Rel} (hr : validR r = true) (hs : validR s = true) {k : Nat} (hk : 1 ≤ k ∧ k ≤ 5) (h1 : sbit s k = true) (h2 : sbit r k = true) (h3 : s.slack < r.slack) : agr r [⟨0, k, 0, 0⟩] [⟨r.slack, k, 0, 0⟩] = true ∧ agr s [⟨0, k, 0, 0⟩] [⟨r.slack, k, 0, 0⟩] = false := by
  have hs0 := ((validR_iff s).1 hs).2.2.2.1
  constructor
  · rw [agr_iff' hr, counted_eq hr, counted_eq hr, List.filter_cons_of_pos (by rw [cnt_bit r hk, h2]), List.filter_cons_of_pos (by rw [cnt_bit r hk, h2]), List.filter_nil]
    have hp : Pt r.slack [⟨0, k, 0, 0⟩] [⟨r.slack, k, 0, 0⟩] := ⟨⟨rfl, by simp only; omega, by simp only; omega⟩, trivial⟩
    split
    · exact hp
    · exact hp.agU
  · rw [← Bool.not_eq_true, agr_iff' hs, counted_eq hs, counted_eq hs, List.filter_cons_of_pos (by rw [cnt_bit s hk, h1]), List.filter_cons_of_pos (by rw [cnt_bit s hk, h1]), List.filter_nil]
    split
    · rintro ⟨⟨-, -, h⟩, -⟩
      simp only at h
      omega
    · intro h
      have h4 := ((h ((k : Int), 0, 0)).2 0).1
      have h5 : cl [⟨0, k, 0, 0⟩] ((k : Int), 0, 0) 0 = 1 := by simp [cl, cls]
      have h6 : cl [⟨r.slack, k, 0, 0⟩] ((k : Int), 0, 0) (0 + s.slack) = 0 := by
        have : ¬ r.slack ≤ 0 + s.slack := by omega
        simp only [cl, cls, List.countP_cons, List.countP_nil, decide_eq_false this, Bool.and_false]
        rfl
      omega
theorem exact_order {r s : Rel} (hr : validR r = true) (hs : validR s = true) {k : Nat} (hk : 1 ≤ k ∧ k ≤ 5) (h1 : sbit s k = true) (h2 : sbit r k = true) (h3 : r.ord = false) (h4 : s.ord = true) :
    agr r [⟨0, k, 1, 0⟩, ⟨0, k, 2, 0⟩] [⟨0, k, 2, 0⟩, ⟨0, k, 1, 0⟩] = true ∧ agr s [⟨0, k, 1, 0⟩, ⟨0, k, 2, 0⟩] [⟨0, k, 2, 0⟩, ⟨0, k, 1, 0⟩] = false := by
  have f : ∀ u : Rel, sbit u k = true → ∀ x y : Int, List.filter (cnt u) [⟨0, k, x, 0⟩, ⟨0, k, y, 0⟩] = [⟨0, k, x, 0⟩, ⟨0, k, y, 0⟩] := by
    intro u hu x y
    rw [List.filter_cons_of_pos (by rw [cnt_bit u hk, hu]), List.filter_cons_of_pos (by rw [cnt_bit u hk, hu]), List.filter_nil]
  constructor
  · rw [agr_iff' hr, counted_eq hr, counted_eq hr, f r h2, f r h2, if_neg (by simp [h3])]
    exact (AgU.refl _ ((validR_iff r).1 hr).2.2.2.1 _).perm (List.Perm.swap _ _ _)
  · rw [← Bool.not_eq_true, agr_iff' hs, counted_eq hs, counted_eq hs, f s h1, f s h1, if_pos h4]
    rintro ⟨⟨h, -⟩, -⟩
    simp [cls] at h
theorem some_bit : ∀ k : Fin 63, k.val ≠ 0 → k.val % 2 = 0 → ∃ i : Fin 6, 1 ≤ i.val ∧ (k.val : Int) / 2 ^ i.val % 2 = 1 := by decide +kernel
/-- A relation that is not weaker, though its kinds all count: some kind counts in both, and the slack or the order is at fault. -/
theorem not_weaker {r s : Rel} (hr : validR r = true) (hs : validR s = true) (hw : weaker r s = false) (hsub : ∀ k, 1 ≤ k → k ≤ 5 → sbit s k = true → sbit r k = true) :
    (∃ k, 1 ≤ k ∧ k ≤ 5 ∧ sbit s k = true ∧ sbit r k = true) ∧ (s.slack < r.slack ∨ (r.ord = false ∧ s.ord = true)) := by
  have hsv := (validR_iff s).1 hs
  have hrv := (validR_iff r).1 hr
  rw [weaker, hr, hs, Bool.and_self, Bool.true_and] at hw
  have hkz : s.kinds ≠ 0 := by
    intro h
    rw [decide_eq_true h, Bool.true_or] at hw
    cases hw
  obtain ⟨i, hi, hb⟩ := some_bit ⟨s.kinds.toNat, by omega⟩ (by simp only; omega) (by simp only; omega)
  simp only [Int.toNat_of_nonneg hsv.1] at hb
  have hb2 : sbit s i.val = true := decide_eq_true hb
  refine ⟨⟨i.val, hi, by omega, hb2, hsub i.val hi (by omega) hb2⟩, ?_⟩
  have hall : decide (∀ k : Fin 6, s.kinds / 2 ^ k.val % 2 = 1 → r.kinds / 2 ^ k.val % 2 = 1) = true := by
    rw [decide_eq_true_eq]
    intro k hk
    by_cases h0 : k.val = 0
    · rw [h0] at hk
      omega
    · have := hsub k.val (by omega) (by omega) (decide_eq_true hk)
      simpa [sbit] using this
  rw [decide_eq_false hkz, hall, Bool.false_or, Bool.true_and] at hw
  by_cases hsl : s.slack < r.slack
  · exact .inl hsl
  · right
    rw [decide_eq_true (by omega), Bool.true_and, Bool.or_eq_false_iff] at hw
    exact ⟨hw.1, by simpa using hw.2⟩
/-! ### Weaker, the second part -/
theorem and_sub : ∀ k l : Fin 63, l.val % 2 = 0 → (((l.val &&& k.val : Nat) : Int) % 2 = 0 ∧ (l.val &&& k.val) ≤ 62) ∧ ∀ i : Fin 6, ((l.val &&& k.val : Nat) : Int) / 2 ^ i.val % 2 = 1 → (k.val : Int) / 2 ^ i.val % 2 = 1 := by decide +kernel
theorem weaker_meet {r s : Rel} {m : Nat} (hr : validR r = true) (hs : validR s = true) (hm : m = s.kinds.toNat &&& r.kinds.toNat) : weaker r ⟨m, max r.slack s.slack, s.ord && r.ord⟩ = true ∧ weaker ⟨m, max r.slack s.slack, s.ord && r.ord⟩ ⟨m, max r.slack s.slack, s.ord && r.ord⟩ = true := by
  have hsv := (validR_iff s).1 hs
  have hrv := (validR_iff r).1 hr
  obtain ⟨⟨h1, h2⟩, h3⟩ := and_sub ⟨r.kinds.toNat, by omega⟩ ⟨s.kinds.toNat, by omega⟩ (by simp only; omega)
  simp only [Int.toNat_of_nonneg hrv.1, ← hm] at h1 h2 h3
  have hv : validR ⟨m, max r.slack s.slack, s.ord && r.ord⟩ = true := by
    rw [validR_iff]
    simp only
    omega
  constructor
  · rw [weaker, hr, hv]
    simp only [Bool.and_self, Bool.true_and, Bool.or_eq_true, Bool.and_eq_true, decide_eq_true_eq]
    right
    refine ⟨⟨h3, by omega⟩, ?_⟩
    cases r.ord <;> simp
  · generalize (s.ord && r.ord) = o at hv ⊢
    rw [weaker, hv]
    simp only [Bool.and_self, Bool.true_and, Bool.or_eq_true, Bool.and_eq_true, decide_eq_true_eq]
    right
    refine ⟨⟨fun _ h => h, by omega⟩, ?_⟩
    cases o <;> simp
end Go.Proofs.YtinknenfhohamaaGreatDoor
