/- Two groupings and a row of truth values: what Compare keeps while it goes through the classes of one of two performances. -/
import Derived.Test.YtinknenfhohamaaGreatDoorG19
import Derived.Test.YtinknenfhohamaaGreatDoorG20
namespace Go.Proofs.YtinknenfhohamaaGreatDoor
open Go.RowKit
set_option maxRecDepth 100000

/-- Blocks that lie apart. -/
structure Far (gf r bc bd : Nat) (fc fd : Cl → Hd) : Prop where
  bc : bc ≠ gf
  bd : bd ≠ gf ∧ bd ≠ r
  rr : r ≠ gf
  fc : ∀ q, QI q → ∀ g l k, fc q = some (g, l, k) → g ≠ gf ∧ g ≠ r
  fd : ∀ q, QI q → ∀ g l k, fd q = some (g, l, k) → g ≠ gf ∧ g ≠ r
structure Un (W : World) (s gf r bc bd Bc Bd nC : Nat) (Dc Dd : DataW Unit) (fc fd : Cl → Hd) (L M : List Ev) (left : Lit → Bool) (cnt : Nat) (F : List Bool) : Prop where
  row : RowB W s (.slice (some ⟨gf, 0, none⟩) F.length F.length) F
  rg : W.ranges Tryz.prog 71 hdR bc r nC Dc left cnt
  rows : ∀ q, QI q → ∃ S, Sorted L q S ∧ RowR W Bc (fc q) S
  others : GroupsAt W Bd bd Dd fd M
section
variable {W W' : World} {s gf r bc bd Bc Bd nC : Nat} {Dc Dd : DataW Unit} {fc fd : Cl → Hd} {L M : List Ev} {left left' : Lit → Bool} {cnt cnt' : Nat} {F F' : List Bool}
theorem GroupsAt.kept {row : Option Nat} (h : GroupsAt W Bd bd Dd fd M) (hg : W.grownBy W' row) (hb : some bd ≠ row) (hf : ∀ q, QI q → ∀ g l k, fd q = some (g, l, k) → some g ≠ row) : GroupsAt W' Bd bd Dd fd M := by
  obtain ⟨h1, h2, h3, h4⟩ := h
  refine ⟨h1.kept hg hb, h2, h3, fun q hq => ?_⟩
  obtain ⟨S, s1, s2⟩ := h4 q hq
  exact ⟨S, s1, s2.kept hg (hf q hq)⟩
theorem rows_kept {row : Option Nat} (h : ∀ q, QI q → ∃ S, Sorted L q S ∧ RowR W Bc (fc q) S) (hg : W.grownBy W' row) (hf : ∀ q, QI q → ∀ g l k, fc q = some (g, l, k) → some g ≠ row) : ∀ q, QI q → ∃ S, Sorted L q S ∧ RowR W' Bc (fc q) S := fun q hq => by
  obtain ⟨S, s1, s2⟩ := h q hq
  exact ⟨S, s1, s2.kept hg (hf q hq)⟩
theorem Un.kept (h : Un W s gf r bc bd Bc Bd nC Dc Dd fc fd L M left cnt F) (hg : W.grownBy W' none) : Un W' s gf r bc bd Bc Bd nC Dc Dd fc fd L M left cnt F where
  row := World.ownsRow.kept h.row hg (.inr (by simp [Value.ownBlock]))
  rg := h.rg.kept hg (by simp) (by simp)
  rows := rows_kept h.rows hg (by simp)
  others := h.others.kept hg (by simp) (by simp)
theorem Un.turn (h : Un W s gf r bc bd Bc Bd nC Dc Dd fc fd L M left cnt F) (hF : Far gf r bc bd fc fd) (hg : W.grownBy W' (some r)) (hr : W'.ranges Tryz.prog 71 hdR bc r nC Dc left' cnt') : Un W' s gf r bc bd Bc Bd nC Dc Dd fc fd L M left' cnt' F where
  row := World.ownsRow.kept h.row hg (.inr (by simp [Value.ownBlock]; exact Ne.symm hF.rr))
  rg := hr
  rows := rows_kept h.rows hg (fun q hq g l k he => by simpa using (hF.fc q hq g l k he).2)
  others := h.others.kept hg (by simpa using hF.bd.2) (fun q hq g l k he => by simpa using (hF.fd q hq g l k he).2)
theorem Un.store (h : Un W s gf r bc bd Bc Bd nC Dc Dd fc fd L M left cnt F) (hF : Far gf r bc bd fc fd) (i : Nat) (y : Bool) : Un (W.setCell ⟨gf, i, none⟩ (.bool y)) s gf r bc bd Bc Bd nC Dc Dd fc fd L M left cnt (F.set i y) ∧ W.grownBy (W.setCell ⟨gf, i, none⟩ (.bool y)) (some gf) := by
  have h1 : RowB (W.setCell ⟨gf, i, none⟩ (.bool y)) s (.slice (some ⟨gf, 0, none⟩) (F.set i y).length (F.set i y).length) (F.set i y) ∧ W.grownBy (W.setCell ⟨gf, i, none⟩ (.bool y)) (some gf) := by
    have h2 := World.ownsRow.stored h.row i (.bool y)
    rw [List.length_set]
    refine ⟨?_, h2.2⟩
    have h3 := h2.1
    show World.ownsRow _ _ _ _ _ _ _
    rw [List.length_set]
    rw [show bools (F.set i y) = (bools F).set i (.bool y) by simp [bools, List.map_set]]
    exact h3
  exact ⟨⟨h1.1, h.rg.kept h1.2 (by simpa using hF.bc) (by simpa using hF.rr), rows_kept h.rows h1.2 (fun q hq g l k he => by simpa using (hF.fc q hq g l k he).1), h.others.kept h1.2 (by simpa using hF.bd.1) (fun q hq g l k he => by simpa using (hF.fd q hq g l k he).1)⟩, h1.2⟩
/-- A row of places as a slice. -/
theorem RowR.view {h : Hd} {S : List Nat} (hr : RowR W Bc h S) : ∃ a c, hdV h = .slice a S.length c ∧ ∀ (p j : Nat), S[p]? = some j → ∃ g, a = some ⟨g, 0, none⟩ ∧ g < W.heap.size ∧ W.cell? ⟨g, p, none⟩ = some (.int .i64 (j : Int)) := by
  rcases hr with ⟨rfl, rfl⟩ | ⟨g, c, rfl, -, hl, hir⟩
  · exact ⟨none, 0, rfl, fun p j hj => by simp at hj⟩
  · exact ⟨_, c, rfl, fun p j hj => ⟨g, rfl, hl, (hir p j hj).1⟩⟩
/-- Truth values that stand at good places. -/
def FitF (r : Rel) (L M : List Ev) (G : Nat → Prop) (F : List Bool) : Prop := F.length = L.length ∧ ∀ i, i < L.length → G i → F[i]? = some (fits r L M i)
theorem FitF.mono {r : Rel} {G G' : Nat → Prop} (h : FitF r L M G F) (hG : ∀ i, i < L.length → G' i → G i) : FitF r L M G' F := ⟨h.1, fun i hi hg => h.2 i hi (hG i hi hg)⟩
theorem FitF.set {r : Rel} {G G' : Nat → Prop} (h : FitF r L M G F) {i : Nat} {y : Bool} (hy : fits r L M i = y) (hG : ∀ k, k < L.length → G' k → G k ∨ k = i) : FitF r L M G' (F.set i y) := by
  refine ⟨by simpa using h.1, fun k hk hg => ?_⟩
  by_cases he : k = i
  · subst he
    rw [List.getElem?_set_self (by rw [h.1]; exact hk), hy]
  · rw [List.getElem?_set_ne (Ne.symm he)]
    rcases hG k hk hg with h1 | h1
    · exact h.2 k hk h1
    · exact absurd h1 he
theorem FitF.start {r : Rel} : FitF r L M (fun _ => False) (List.replicate L.length false) := ⟨by simp, fun _ _ h => h.elim⟩
end
theorem un_yes {r : Rel} {L M : List Ev} {q : Cl} {S S' : List Nat} {p i j : Nat} (ho : fits r L M i = partner r L M i) (hS : Sorted L q S) (hS' : Sorted M q S') (hi : S[p]? = some i) (hj : S'[p]? = some j) : fits r L M i = near r (tmAt L i) (tmAt M j) := by
  have hm := hS.mem hi
  rw [ho, Bool.eq_iff_iff, partner_iff (by rw [hm.2]; exact hS'), hS.rank hi]
  constructor
  · rintro ⟨j', h1, h2⟩
    rw [hj] at h1
    injection h1 with h1
    rw [h1]; exact h2
  · exact fun h => ⟨j, hj, h⟩
theorem un_no {r : Rel} {L M : List Ev} {q : Cl} {S S' : List Nat} {p i : Nat} (ho : fits r L M i = partner r L M i) (hS : Sorted L q S) (hS' : Sorted M q S') (hi : S[p]? = some i) (hj : S'.length ≤ p) : fits r L M i = false := by
  have hm := hS.mem hi
  rw [ho, ← Bool.not_eq_true, partner_iff (by rw [hm.2]; exact hS'), hS.rank hi]
  rintro ⟨j', h1, -⟩
  have := (List.getElem?_eq_some_iff.1 h1).1
  omega
theorem Tryz.makeBools (W : World) (s n : Nat) (hs : s ≤ W.heap.size) (hn : n ≤ 1000) : ∃ W', (Instr.makeSlice 69 (.int .i64 (n : Int)) (.int .i64 (n : Int))).run Tryz.prog W = .ok (.slice (some ⟨W.heap.size, 0, none⟩) n n) W' ∧ RowB W' s (.slice (some ⟨W.heap.size, 0, none⟩) n n) (List.replicate n false) ∧ Below W.heap.size W W' := by
  obtain ⟨i0, hi, hz0, hz1, hz2⟩ := info_parts Tryz.infoBool
  obtain ⟨W', h1, h2, h3⟩ := run_makeSlice_full W s 69 4 i0 (.bool false) 1 Tryz.underlying69 hi hz0 hz1 .i64 .i64 n (by omega) (by rw [hz2]; omega) (by unfold maxLen; omega) hs
  refine ⟨W', h1, ?_, Below.of_grown0 h3⟩
  show World.ownsRow _ _ _ _ _ _ _
  have : (madeCells (Value.cells (.bool false)) (n * 1)).toList = bools (List.replicate n false) := by
    rw [show Value.cells (.bool false) = #[.bool false] from rfl, toList_madeCells_one, Nat.mul_one]
    simp [bools]
  rw [List.length_replicate, ← this]
  exact h2
theorem RowB.cell {W : World} {B g n c : Nat} {F : List Bool} (h : RowB W B (.slice (some ⟨g, 0, none⟩) n c) F) {i : Nat} {x : Bool} (hx : F[i]? = some x) : W.cell? ⟨g, i, none⟩ = some (.bool x) ∧ W.frozen? ⟨g, i, none⟩ = false := by
  obtain ⟨hT, -, rfl⟩ := h.tr
  exact ⟨hT i x hx, World.ownsRow.frozenAt h i⟩
theorem GroupsAt.lt {W : World} {B b : Nat} {D : DataW Unit} {f : Cl → Hd} {L : List Ev} (h : GroupsAt W B b D f L) : b < W.heap.size ∧ ∀ q, QI q → ∀ g l k, f q = some (g, l, k) → B ≤ g ∧ g < W.heap.size := by
  refine ⟨?_, fun q hq g l k hf => ?_⟩
  · obtain ⟨es, clock, hb, _⟩ := h.1
    exact (Array.getElem?_eq_some_iff.1 hb).1
  · obtain ⟨S, -, hr⟩ := h.2.2.2 q hq
    rw [hf] at hr
    rcases hr with ⟨h1, -⟩ | ⟨g', c, h1, h2, h3, -⟩
    · cases h1
    · injection h1 with h1
      injection h1 with h1 _
      subst h1
      exact ⟨h2, h3⟩
theorem GroupsAt.has {W : World} {B b : Nat} {D : DataW Unit} {f : Cl → Hd} {L : List Ev} (h : GroupsAt W B b D f L) {i : Nat} (hi : i < L.length) (hq : QI (cls (L.getD i default))) : Maps.has D (kl (cls (L.getD i default))) = true := by
  cases hh : Maps.has D (kl (cls (L.getD i default))) with
  | true => rfl
  | false =>
    have h1 := h.2.1 _ hq
    rw [Maps.atKey_of_not_has hh] at h1
    have h2 : f (cls (L.getD i default)) = none := hdD_inj (y := none) h1.symm
    obtain ⟨S, hS, hr⟩ := h.2.2.2 _ hq
    rw [h2] at hr
    rcases hr with ⟨-, h3⟩ | ⟨g', c, h1, -⟩
    · subst h3
      have := hS.1.mem_iff.2 (mem_pl.2 ⟨hi, rfl⟩)
      cases this
    · cases h1
theorem Far.at {W5 W6 : World} {gf s4 bc bd : Nat} {Dc Dd : DataW Unit} {fc fd : Cl → Hd} {L M : List Ev} (h4 : gf < s4) (hd : GroupsAt W5 s4 bd Dd fd M) (hbd : s4 ≤ bd) (hc : GroupsAt W6 W5.heap.size bc Dc fc L) (hbc : W5.heap.size ≤ bc) (h45 : s4 ≤ W5.heap.size) (h56 : W5.heap.size ≤ W6.heap.size) : Far gf W6.heap.size bc bd fc fd where
  bc := by omega
  bd := by have := hd.lt.1; omega
  rr := by omega
  fc := fun q hq g l k he => by have := hc.lt.2 q hq g l k he; omega
  fd := fun q hq g l k he => by have := hd.lt.2 q hq g l k he; omega
theorem Un.start {W6 W0 : World} {s gf bc bd Bc Bd n c : Nat} {Dc Dd : DataW Unit} {fc fd : Cl → Hd} {L M : List Ev} {F : List Bool} (hn : n = F.length) (hc' : c = F.length) (hrow : RowB W6 s (.slice (some ⟨gf, 0, none⟩) n c) F) (hd : GroupsAt W6 Bd bd Dd fd M) (hc : GroupsAt W6 Bc bc Dc fc L) (hg : W6.grownBy W0 none)
    (hr : W0.ranges Tryz.prog 71 hdR bc W6.heap.size 1000 Dc (Maps.has Dc) (Maps.size Dc)) : Un W0 s gf W6.heap.size bc bd Bc Bd 1000 Dc Dd fc fd L M (Maps.has Dc) (Maps.size Dc) F := by
  subst hn hc'
  exact ⟨World.ownsRow.kept hrow hg (.inr (by simp [Value.ownBlock])), hr, rows_kept hc.2.2.2 hg (by simp), hd.kept hg (by simp) (by simp)⟩
theorem RowB.kept0 {W W' : World} {B : Nat} {v : Value} {F : List Bool} (h : RowB W B v F) (hb : Below W.heap.size W W') : RowB W' B v F := World.ownsRow.kept h (Below.grown0 hb) (by cases v.ownBlock <;> simp)
theorem GroupsAt.kept0 {W W' : World} {B b : Nat} {D : DataW Unit} {f : Cl → Hd} {L : List Ev} (h : GroupsAt W B b D f L) (hb : Below W.heap.size W W') : GroupsAt W' B b D f L := h.kept (Below.grown0 hb) (by simp) (by simp)
/-- The places of one class are struck from what is left. -/
theorem struck {L : List Ev} {q : Cl} {S : List Nat} {left : Lit → Bool} (hS : Sorted L q S) (hC : ClI L) (hq : QI q) {i : Nat} (hi : i < L.length) (h : (left (kl (cls (L.getD i default))) && !(kl (cls (L.getD i default))).sameKey (kl q)) = false) : left (kl (cls (L.getD i default))) = false ∨ i ∈ S := by
  cases hl : left (kl (cls (L.getD i default))) with
  | false => exact .inl rfl
  | true =>
    refine .inr (hS.1.mem_iff.2 (mem_pl.2 ⟨hi, ?_⟩))
    rw [hl] at h
    by_cases hc : cls (L.getD i default) = q
    · exact hc
    · have hqi : QI (cls (L.getD i default)) := hC _ (by rw [List.getD_eq_getElem?_getD, List.getElem?_eq_getElem hi]; exact List.getElem_mem hi)
      have hk : (kl (cls (L.getD i default))).sameKey (kl q) = false := Maps.sameKey_ne (fun he => hc (kl_inj hqi hq he))
      rw [hk] at h
      cases h
end Go.Proofs.YtinknenfhohamaaGreatDoor
