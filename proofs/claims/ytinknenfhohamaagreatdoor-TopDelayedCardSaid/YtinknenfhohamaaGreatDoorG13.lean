/- When performances agree, by counting: ranks, and how many events of a class come until a time. No program in sight. -/
import Derived.Test.YtinknenfhohamaaGreatDoorG07
namespace Go.Proofs.YtinknenfhohamaaGreatDoor

def tmAt (l : List Ev) (k : Nat) : Int := (l.getD k default).tm
/-- The places of the events of a class. -/
def pl (l : List Ev) (q : Int × Int × Int) : List Nat := (List.range l.length).filter fun k => decide (cls (l.getD k default) = q)
def cn (l : List Ev) (q : Int × Int × Int) : Nat := l.countP fun e => decide (cls e = q)
/-- How many events of a class come until a time. -/
def cl (l : List Ev) (q : Int × Int × Int) (t : Int) : Nat := l.countP fun e => decide (cls e = q) && decide (e.tm ≤ t)
theorem range_map (l : List Ev) : (List.range l.length).map (fun k => l.getD k default) = l := by
  apply List.ext_getElem?
  intro i
  rw [List.getElem?_map]
  rcases Nat.lt_or_ge i l.length with h | h
  · rw [List.getElem?_range h, List.getElem?_eq_getElem h]; simp [List.getD_eq_getElem?_getD, h]
  · rw [List.getElem?_eq_none (by simpa using h), List.getElem?_eq_none h]; rfl
theorem range_count (l : List Ev) (p : Ev → Bool) : ((List.range l.length).filter fun k => p (l.getD k default)).length = l.countP p := by
  conv => rhs; rw [← range_map l]
  rw [List.countP_map, List.countP_eq_length_filter]; rfl
theorem pl_length (l : List Ev) (q : Int × Int × Int) : (pl l q).length = cn l q := range_count l fun e => decide (cls e = q)
theorem pl_le (l : List Ev) (q : Int × Int × Int) (t : Int) : ((pl l q).filter fun k => decide (tmAt l k ≤ t)).length = cl l q t := by
  rw [pl, List.filter_filter, cl, ← range_count]
  congr 1
  apply List.filter_congr
  intro k _
  rw [Bool.and_comm]; rfl
theorem mem_pl {l : List Ev} {q : Int × Int × Int} {k : Nat} : k ∈ pl l q ↔ k < l.length ∧ cls (l.getD k default) = q := by simp [pl]
/-- The places of a class, sorted. -/
def Sorted (l : List Ev) (q : Int × Int × Int) (S : List Nat) : Prop := S.Perm (pl l q) ∧ Srt (tmAt l) S
theorem sorted_exists (l : List Ev) (q : Int × Int × Int) : ∃ S, Sorted l q S := by
  suffices h : ∀ P : List Nat, P.Nodup → ∃ S : List Nat, S.Perm P ∧ Srt (tmAt l) S from h _ (List.Pairwise.filter _ List.nodup_range)
  intro P
  induction P with
  | nil => intro _; exact ⟨[], List.Perm.refl _, List.Pairwise.nil⟩
  | cons x P ih =>
    intro hn
    obtain ⟨hx, hn⟩ := List.nodup_cons.1 hn
    obtain ⟨S, hp, hs⟩ := ih hn
    have hxs : x ∉ S := fun h => hx (hp.mem_iff.1 h)
    suffices h : ∀ A B : List Nat, S = A ++ B → (∀ y ∈ A, Bf (tmAt l) y x) → ∃ S', S'.Perm (x :: S) ∧ Srt (tmAt l) S' by
      obtain ⟨S', h1, h2⟩ := h [] S rfl (by simp)
      exact ⟨S', h1.trans (hp.cons x), h2⟩
    intro A B
    induction B generalizing A with
    | nil =>
      intro hS hA
      refine ⟨A ++ [x], ?_, ?_⟩
      · rw [hS, List.append_nil]; exact List.perm_append_comm
      · rw [hS] at hs
        exact srt_put (R := []) hs hA (by simp)
    | cons y B ihB =>
      intro hS hA
      by_cases hy : Bf (tmAt l) y x
      · exact ihB (A ++ [y]) (by simp [hS]) (by
          intro z hz
          rcases List.mem_append.1 hz with hz | hz
          · exact hA z hz
          · rw [List.mem_singleton.1 hz]; exact hy)
      · have hxy : Bf (tmAt l) x y := by
          have hne : x ≠ y := fun h => hxs (by rw [hS, h]; simp)
          unfold Bf at *; omega
        refine ⟨A ++ x :: y :: B, ?_, ?_⟩
        · rw [hS]; exact List.perm_middle
        · rw [hS] at hs
          refine srt_put hs hA ?_
          intro z hz
          rcases List.mem_cons.1 hz with rfl | hz
          · exact hxy
          · exact hxy.trans ((List.pairwise_cons.1 (srt_append.1 hs).2.1).1 z hz)
theorem filter_split {S : List Nat} {n i : Nat} {p : Nat → Bool} (h : S[n]? = some i) (h1 : ∀ x ∈ S.take n, p x = true) (h2 : ∀ x ∈ S.drop (n + 1), p x = false) : (S.filter p).length = n + (if p i then 1 else 0) := by
  obtain ⟨hl, he⟩ := List.getElem?_eq_some_iff.1 h
  have hS : S = S.take n ++ i :: S.drop (n + 1) := by rw [← he, ← List.drop_eq_getElem_cons hl, List.take_append_drop]
  conv => lhs; rw [hS]
  rw [List.filter_append, List.filter_eq_self.2 h1, List.filter_cons, List.filter_eq_nil_iff.2 (by intro x hx; simp [h2 x hx])]
  have ht : (S.take n).length = n := by rw [List.length_take]; omega
  cases p i <;> simp <;> omega
theorem Sorted.around {l : List Ev} {q : Int × Int × Int} {S : List Nat} (h : Sorted l q S) {n i : Nat} (hi : S[n]? = some i) : (∀ x ∈ S.take n, Bf (tmAt l) x i) ∧ (∀ x ∈ S.drop (n + 1), Bf (tmAt l) i x) := by
  obtain ⟨hl, he⟩ := List.getElem?_eq_some_iff.1 hi
  have hS : S = S.take n ++ i :: S.drop (n + 1) := by rw [← he, ← List.drop_eq_getElem_cons hl, List.take_append_drop]
  have h2 := h.2
  rw [hS] at h2
  obtain ⟨_, a2, a3⟩ := srt_append.1 h2
  exact ⟨fun x hx => a3 x hx i (by simp), fun x hx => (List.pairwise_cons.1 a2).1 x hx⟩
theorem Sorted.mem {l : List Ev} {q : Int × Int × Int} {S : List Nat} (h : Sorted l q S) {n i : Nat} (hi : S[n]? = some i) : i < l.length ∧ cls (l.getD i default) = q := mem_pl.1 (h.1.mem_iff.1 (List.mem_of_getElem? hi))
theorem Sorted.length {l : List Ev} {q : Int × Int × Int} {S : List Nat} (h : Sorted l q S) : S.length = cn l q := by rw [h.1.length_eq, pl_length]
instance (t : Nat → Int) (i j : Nat) : Decidable (Bf t i j) := by unfold Bf; infer_instance
/-- The event at a place of the sorted row has that rank. -/
theorem Sorted.rank {l : List Ev} {q : Int × Int × Int} {S : List Nat} (h : Sorted l q S) {n i : Nat} (hi : S[n]? = some i) : rank l i = n := by
  obtain ⟨h1, h2⟩ := h.around hi
  obtain ⟨_, hc⟩ := h.mem hi
  have key : YtinknenfhohamaaGreatDoor.rank l i = ((pl l q).filter fun k => decide (Bf (tmAt l) k i)).length := by
    rw [pl, List.filter_filter, YtinknenfhohamaaGreatDoor.rank]
    congr 1
    apply List.filter_congr
    intro k _
    rw [hc, Bool.and_comm, Bool.eq_iff_iff]
    simp [Bf, tmAt]
  rw [key, ← (h.1.filter _).length_eq, filter_split hi (fun x hx => decide_eq_true (h1 x hx)) (fun x hx => decide_eq_false (fun hb => Bf.irrefl ((h2 x hx).trans hb)))]
  simp [show ¬ Bf (tmAt l) i i from fun hb => Bf.irrefl hb]
theorem Sorted.at {l : List Ev} {q : Int × Int × Int} {S : List Nat} (h : Sorted l q S) {i : Nat} (hi : i < l.length) (hc : cls (l.getD i default) = q) : S[YtinknenfhohamaaGreatDoor.rank l i]? = some i := by
  obtain ⟨n, hn⟩ := List.getElem?_of_mem (h.1.mem_iff.2 (mem_pl.2 ⟨hi, hc⟩))
  rw [h.rank hn]; exact hn
/-- When the event at a place of the sorted row has come. -/
theorem Sorted.le_iff {l : List Ev} {q : Int × Int × Int} {S : List Nat} (h : Sorted l q S) {n i : Nat} (hi : S[n]? = some i) (t : Int) : tmAt l i ≤ t ↔ n < cl l q t := by
  obtain ⟨h1, h2⟩ := h.around hi
  rw [← pl_le, ← (h.1.filter _).length_eq]
  obtain ⟨hl, he⟩ := List.getElem?_eq_some_iff.1 hi
  have hS : S = S.take n ++ i :: S.drop (n + 1) := by rw [← he, ← List.drop_eq_getElem_cons hl, List.take_append_drop]
  have ht : (S.take n).length = n := by rw [List.length_take]; omega
  constructor
  · intro hle
    rw [hS, List.filter_append, List.filter_eq_self.2 (fun x hx => decide_eq_true (Int.le_trans (h1 x hx).le hle)), List.filter_cons, if_pos (decide_eq_true hle)]
    simp; omega
  · intro hlt
    rcases Int.lt_or_le t (tmAt l i) with hgt | hle
    · exfalso
      rw [hS, List.filter_append, List.filter_eq_nil_iff (l := i :: S.drop (n + 1)) |>.2 (by
        intro x hx
        rcases List.mem_cons.1 hx with rfl | hx
        · simp; omega
        · have := (h2 x hx).le
          simp; omega), List.append_nil] at hlt
      have := List.length_filter_le (fun k => decide (tmAt l k ≤ t)) (S.take n)
      omega
    · exact hle
theorem Sorted.some {l : List Ev} {q : Int × Int × Int} {S : List Nat} (h : Sorted l q S) {n : Nat} (hn : n < cn l q) : ∃ i, S[n]? = Option.some i := ⟨_, List.getElem?_eq_getElem (by rw [h.length]; exact hn)⟩
theorem near_iff (r : Rel) (s t : Int) : near r s t = true ↔ s ≤ t + r.slack ∧ t ≤ s + r.slack := by simp only [near, decide_eq_true_eq]; omega
/-- What a partner is, by the sorted row. -/
theorem partner_iff {r : Rel} {c d : List Ev} {i : Nat} {S : List Nat} (h : Sorted d (cls (c.getD i default)) S) : partner r c d i = true ↔ ∃ j, S[rank c i]? = some j ∧ near r (tmAt c i) (tmAt d j) = true := by
  unfold partner
  rw [List.any_eq_true]
  constructor
  · rintro ⟨k, hk, hp⟩
    simp only [Bool.and_eq_true, decide_eq_true_eq] at hp
    obtain ⟨⟨h1, h2⟩, h3⟩ := hp
    refine ⟨k, ?_, h3⟩
    rw [← h2]
    exact h.at (by simpa using hk) h1
  · rintro ⟨j, hj, hn⟩
    obtain ⟨h1, h2⟩ := h.mem hj
    refine ⟨j, by simpa using h1, ?_⟩
    simp only [Bool.and_eq_true, decide_eq_true_eq]
    exact ⟨⟨h2, h.rank hj⟩, hn⟩
/-- Counts that are nowhere greater, in lists of one length, are the same. -/
theorem count_eq {α : Type} [BEq α] [LawfulBEq α] : ∀ (L M : List α), (∀ k, L.count k ≤ M.count k) → M.length = L.length → ∀ k, L.count k = M.count k
  | [], M, _, hl, k => by
    obtain rfl : M = [] := List.eq_nil_of_length_eq_zero hl
    rfl
  | x :: L, M, h, hl, k => by
    have hx : x ∈ M := by
      have := h x
      rw [List.count_cons_self] at this
      exact List.count_pos_iff.1 (by omega)
    have hm : ∀ k, L.count k ≤ (M.erase x).count k := by
      intro k
      have := h k
      by_cases hk : k = x
      · subst hk
        rw [List.count_cons_self] at this
        rw [List.count_erase_self]; omega
      · rw [List.count_cons_of_ne (Ne.symm hk)] at this
        rw [List.count_erase_of_ne hk]; omega
    have hl2 : (M.erase x).length = L.length := by
      rw [List.length_erase_of_mem hx, hl]; simp
    have := count_eq L (M.erase x) hm hl2 k
    by_cases hk : k = x
    · subst hk
      rw [List.count_cons_self, this, List.count_erase_self]
      have := List.count_pos_iff.2 hx
      omega
    · rw [List.count_cons_of_ne (Ne.symm hk), this, List.count_erase_of_ne hk]
theorem cn_count (l : List Ev) (q : Int × Int × Int) : cn l q = (l.map cls).count q := by
  rw [cn, List.count_eq_countP, List.countP_map]
  congr 1
  funext e
  rw [Bool.eq_iff_iff]
  simp
/-- Agreement without an order. -/
def AgU (s : Int) (c d : List Ev) : Prop := ∀ q, cn c q = cn d q ∧ ∀ t, cl c q t ≤ cl d q (t + s) ∧ cl d q t ≤ cl c q (t + s)
theorem partner_all {r : Rel} {c d : List Ev} : ((∀ i, i < c.length → partner r c d i = true) ∧ c.length = d.length) ↔ AgU r.slack c d := by
  constructor
  · rintro ⟨h, hl⟩
    have hle : ∀ q, cn c q ≤ cn d q := by
      intro q
      rcases Nat.eq_zero_or_pos (cn c q) with h0 | h0
      · omega
      · obtain ⟨S, hS⟩ := sorted_exists c q
        obtain ⟨T, hT⟩ := sorted_exists d q
        obtain ⟨i, hi⟩ := hS.some (n := cn c q - 1) (by omega)
        obtain ⟨h1, h2⟩ := hS.mem hi
        obtain ⟨j, hj, _⟩ := (partner_iff (S := T) (by rw [h2]; exact hT)).1 (h i h1)
        have := (List.getElem?_eq_some_iff.1 hj).1
        rw [hS.rank hi, hT.length] at this
        omega
    have heq : ∀ q, cn c q = cn d q := by
      intro q
      rw [cn_count, cn_count]
      exact count_eq (c.map cls) (d.map cls) (fun k => by rw [← cn_count, ← cn_count]; exact hle k) (by simp [hl]) q
    intro q
    obtain ⟨S, hS⟩ := sorted_exists c q
    obtain ⟨T, hT⟩ := sorted_exists d q
    have key : ∀ n, n < cn c q → ∃ i j, S[n]? = some i ∧ T[n]? = some j ∧ near r (tmAt c i) (tmAt d j) = true := by
      intro n hn
      obtain ⟨i, hi⟩ := hS.some hn
      obtain ⟨h1, h2⟩ := hS.mem hi
      obtain ⟨j, hj, hnear⟩ := (partner_iff (S := T) (by rw [h2]; exact hT)).1 (h i h1)
      rw [hS.rank hi] at hj
      exact ⟨i, j, hi, hj, hnear⟩
    refine ⟨heq q, fun t => ⟨?_, ?_⟩⟩
    · rcases Nat.eq_zero_or_pos (cl c q t) with h0 | h0
      · omega
      · have hcl : cl c q t ≤ cn c q := by rw [← pl_le, ← pl_length]; exact List.length_filter_le _ _
        obtain ⟨i, j, hi, hj, hn⟩ := key (cl c q t - 1) (by omega)
        have h1 := (hS.le_iff hi t).2 (by omega)
        rw [near_iff] at hn
        have := (hT.le_iff hj (t + r.slack)).1 (by omega)
        omega
    · rcases Nat.eq_zero_or_pos (cl d q t) with h0 | h0
      · omega
      · have hcl : cl d q t ≤ cn d q := by rw [← pl_le, ← pl_length]; exact List.length_filter_le _ _
        obtain ⟨i, j, hi, hj, hn⟩ := key (cl d q t - 1) (by rw [heq q]; omega)
        have h1 := (hT.le_iff hj t).2 (by omega)
        rw [near_iff] at hn
        have := (hS.le_iff hi (t + r.slack)).1 (by omega)
        omega
  · intro h
    refine ⟨?_, ?_⟩
    · intro i hi
      obtain ⟨S, hS⟩ := sorted_exists c (cls (c.getD i default))
      obtain ⟨T, hT⟩ := sorted_exists d (cls (c.getD i default))
      obtain ⟨h1, h2⟩ := h (cls (c.getD i default))
      rw [partner_iff hT]
      have hat := hS.at hi rfl
      have hlt : rank c i < cn d (cls (c.getD i default)) := by
        have := (List.getElem?_eq_some_iff.1 hat).1
        rw [hS.length] at this; omega
      obtain ⟨j, hj⟩ := hT.some hlt
      refine ⟨j, hj, ?_⟩
      rw [near_iff]
      constructor
      · have a1 := (hT.le_iff hj (tmAt d j)).1 (Int.le_refl _)
        have a2 := (h2 (tmAt d j)).2
        exact (hS.le_iff hat _).2 (by omega)
      · have a1 := (hS.le_iff hat (tmAt c i)).1 (Int.le_refl _)
        have a2 := (h2 (tmAt c i)).1
        exact (hT.le_iff hj _).2 (by omega)
    · have hp : (c.map cls).Perm (d.map cls) := List.perm_iff_count.2 (fun q => by rw [← cn_count, ← cn_count]; exact (h q).1)
      have := hp.length_eq
      simpa using this
theorem AgU.refl (s : Int) (hs : 0 ≤ s) (c : List Ev) : AgU s c c := fun q => ⟨rfl, fun t => by
  have h : cl c q t ≤ cl c q (t + s) := by
    unfold cl
    apply List.countP_mono_left
    intro e _ he
    simp only [Bool.and_eq_true, decide_eq_true_eq] at he ⊢
    exact ⟨he.1, by omega⟩
  exact ⟨h, h⟩⟩
theorem AgU.symm {s : Int} {c d : List Ev} (h : AgU s c d) : AgU s d c := fun q => ⟨(h q).1.symm, fun t => ⟨((h q).2 t).2, ((h q).2 t).1⟩⟩
theorem AgU.trans {s u : Int} {c d e : List Ev} (h1 : AgU s c d) (h2 : AgU u d e) : AgU (s + u) c e := fun q => ⟨(h1 q).1.trans (h2 q).1, fun t => ⟨by
  have a := ((h1 q).2 t).1
  have b := ((h2 q).2 (t + s)).1
  rw [show t + (s + u) = t + s + u by omega]
  omega, by
  have a := ((h2 q).2 t).2
  have b := ((h1 q).2 (t + u)).2
  rw [show t + (s + u) = t + u + s by omega]
  omega⟩⟩
theorem cl_mono (l : List Ev) (q : Int × Int × Int) {t u : Int} (h : t ≤ u) : cl l q t ≤ cl l q u := by
  unfold cl
  apply List.countP_mono_left
  intro e _ he
  simp only [Bool.and_eq_true, decide_eq_true_eq] at he ⊢
  exact ⟨he.1, by omega⟩
theorem AgU.mono {s u : Int} {c d : List Ev} (h : AgU s c d) (hs : s ≤ u) : AgU u c d := fun q => ⟨(h q).1, fun t => by
  have a := (h q).2 t
  have b := cl_mono d q (t := t + s) (u := t + u) (by omega)
  have e := cl_mono c q (t := t + s) (u := t + u) (by omega)
  omega⟩
theorem AgU.perm {s : Int} {c d e : List Ev} (h : AgU s c d) (hp : d.Perm e) : AgU s c e := fun q => by
  have h1 : cn e q = cn d q := (hp.countP_eq _).symm
  have h2 : ∀ t, cl e q t = cl d q t := fun t => (hp.countP_eq _).symm
  refine ⟨by rw [h1]; exact (h q).1, fun t => ?_⟩
  rw [h2, h2]; exact (h q).2 t
/-- Agreement with an order. -/
def AgO (r : Rel) : List Ev → List Ev → Prop
  | [], [] => True
  | x :: c, y :: d => alike r x y = true ∧ AgO r c d
  | _, _ => False
theorem AgO.iff {r : Rel} : ∀ (c d : List Ev), AgO r c d ↔ c.length = d.length ∧ ∀ i, i < c.length → alike r (c.getD i default) (d.getD i default) = true
  | [], [] => by simp [AgO]
  | x :: c, y :: d => by
    rw [AgO, AgO.iff c d]
    constructor
    · rintro ⟨h1, h2, h3⟩
      refine ⟨by simp [h2], ?_⟩
      intro i hi
      match i with
      | 0 => simpa using h1
      | i + 1 => simpa using h3 i (by simpa using hi)
    · rintro ⟨h1, h2⟩
      refine ⟨by simpa using h2 0 (by simp), by simpa using h1, ?_⟩
      intro i hi
      simpa using h2 (i + 1) (by simpa using hi)
  | [], y :: d => by simp [AgO]
  | x :: c, [] => by simp [AgO]
def agr (r : Rel) (a b : List Ev) : Bool := (compareR r a b).2
theorem firstBad_none {r : Rel} {c d : List Ev} : firstBad r c d = none ↔ ∀ i, i < c.length → fits r c d i = true := by
  simp [firstBad]
theorem agr_iff {r : Rel} (hr : validR r = true) (a b : List Ev) : agr r a b = true ↔ if r.ord then AgO r (counted r a) (counted r b) else AgU r.slack (counted r a) (counted r b) := by
  have h : agr r a b = true ↔ (∀ i, i < (counted r a).length → fits r (counted r a) (counted r b) i = true) ∧ (counted r a).length = (counted r b).length := by
    rw [← firstBad_none, agr, compareR, if_pos hr]
    cases hf : firstBad r (counted r a) (counted r b) with
    | none => by_cases hl : (counted r a).length = (counted r b).length <;> simp [hl]
    | some i => simp
  rw [h]
  cases ho : r.ord with
  | true =>
    rw [if_pos rfl, AgO.iff]
    constructor
    · rintro ⟨h1, h2⟩
      refine ⟨h2, fun i hi => ?_⟩
      have := h1 i hi
      rw [fits, if_pos ho, Bool.and_eq_true] at this
      exact this.2
    · rintro ⟨h1, h2⟩
      refine ⟨fun i hi => ?_, h1⟩
      rw [fits, if_pos ho, Bool.and_eq_true, decide_eq_true_eq]
      exact ⟨by omega, h2 i hi⟩
  | false =>
    rw [if_neg (by simp), ← partner_all]
    constructor
    · rintro ⟨h1, h2⟩
      refine ⟨fun i hi => ?_, h2⟩
      have := h1 i hi
      rwa [fits, if_neg (by simp [ho])] at this
    · rintro ⟨h1, h2⟩
      refine ⟨fun i hi => ?_, h2⟩
      rw [fits, if_neg (by simp [ho])]
      exact h1 i hi
end Go.Proofs.YtinknenfhohamaaGreatDoor
