/- A map from classes of events to rows of places that the call owns. Rows of places behind a map's keys: what they hold, a place appended to one of them. -/
import Derived.Test.YtinknenfhohamaaGreatDoorG08
import Derived.Test.YtinknenfhohamaaGreatDoorG06
import Derived.Test.YtinknenfhohamaaGreatDoorG13
import Derived.Maps.RangeWalk
import Derived.Maps.Views
import Derived.DeepKeys4
namespace Go.Proofs.YtinknenfhohamaaGreatDoor
open Go.RowKit
set_option maxRecDepth 100000

abbrev Cl := Int × Int × Int
def qV (q : Cl) : Value := .agg #[.int .i64 q.1, .int .i64 q.2.1, .int .i64 q.2.2]
theorem clsV_eq (e : Ev) : clsV e = qV (cls e) := rfl
def QI (q : Cl) : Prop := I64 q.1 ∧ I64 q.2.1 ∧ I64 q.2.2
theorem Tryz.laidOut : laidOutB Tryz.prog = true := by kernel_rfl
theorem Tryz.rowC : (71 : TypeId) < Tryz.prog.types.size := of_decide_eq_true (by kernel_rfl)
theorem Tryz.wideC : (match Tryz.prog.underlying 71 with | some (.array _ _) | some (.struct _) => true | _ => false) = true := by rw [Tryz.underlying71]
theorem lawC : Maps.Keyed Tryz.prog 71 := Maps.Keyed.of_law (deep_law_laid Tryz.laidOut (m := 2) (by omega) Tryz.rowC (by kernel_rfl) Tryz.wideC)
theorem keyTypeC : Tryz.prog.keyType 71 = true := by kernel_rfl
theorem typesSize : Tryz.prog.types.size = Tryz.prog.types.size - 1 + 1 := by kernel_rfl
theorem cellsOfC : Tryz.prog.cellsOf 71 = 3 := by kernel_rfl
theorem cellsOfI : Tryz.prog.cellsOf 3 = 1 := by kernel_rfl
theorem wf_i64 {x : Int} : (Lit.int .i64 x).wf = true ↔ I64 x := by
  unfold I64
  have e1 : IntKind.i64.min = -9223372036854775808 := rfl
  have e2 : IntKind.i64.max = 9223372036854775807 := rfl
  simp only [Lit.wf, Bool.and_eq_true, decide_eq_true_eq, e1, e2]
def litI : Value → Option Lit
  | .int .i64 n => if (Lit.int .i64 n).wf = true then some (.int .i64 n) else none
  | _ => none
theorem lits_int (d : Nat) (x : Value) : Tryz.prog.keyLits (d + 1) 3 [x] = (litI x).map fun l => [l] := by
  unfold Program.keyLits litI
  rw [Tryz.underlying3]
  cases x <;> try rfl
  rename_i q n
  cases q <;> simp
theorem litI_inv {x : Value} {l : Lit} (h : litI x = some l) : ∃ n, x = .int .i64 n ∧ l = .int .i64 n ∧ I64 n := by
  unfold litI at h
  split at h
  · split at h
    · rename_i hw
      injection h with h
      exact ⟨_, rfl, h.symm, wf_i64.1 hw⟩
    · cases h
  · cases h
theorem litI_mk {n : Int} (h : I64 n) : litI (.int .i64 n) = some (.int .i64 n) := if_pos (wf_i64.2 h)
theorem keyOf_three (x y z : Value) : keyOf Tryz.prog 71 (.agg #[x, y, z]) = (litI x).bind fun a => (litI y).bind fun b => (litI z).bind fun c => some (.string (keyBytes [a, b, c])) := by
  have hf : (Value.agg #[x, y, z]).formed Tryz.prog 71 = true := by simp [Value.formed, Tryz.underlying71, cellsOfC]
  unfold keyOf
  rw [Tryz.underlying71]
  simp only [keyTypeC, hf, Bool.and_self, if_true]
  obtain ⟨m, hm⟩ : ∃ m, Tryz.prog.types.size = m + 1 := ⟨_, typesSize⟩
  rw [hm]
  have h := fun v => lits_int m v
  generalize m + 1 = d at h
  unfold Program.keyLits
  rw [Tryz.underlying71]
  simp [cellsOfC, cellsOfI, Value.cells, h]
  cases litI x <;> try rfl
  cases litI y <;> try rfl
  cases litI z <;> try rfl
theorem keyOf_mk {q : Cl} (h : QI q) : ∃ l, keyOf Tryz.prog 71 (qV q) = some l := by
  rw [qV, keyOf_three, litI_mk h.1, litI_mk h.2.1, litI_mk h.2.2]
  exact ⟨_, rfl⟩
theorem keyOf_inv {v : Value} {l : Lit} (h : keyOf Tryz.prog 71 v = some l) : ∃ q, QI q ∧ v = qV q := by
  have h0 := h
  unfold keyOf at h
  rw [Tryz.underlying71] at h
  simp only [keyTypeC, Bool.true_and] at h
  split at h
  · rename_i hf
    cases v <;> simp [Value.formed, Tryz.underlying71] at hf
    rename_i cs
    rw [cellsOfC] at hf
    obtain ⟨l⟩ := cs
    match l, hf with
    | [x, y, z], _ =>
      rw [keyOf_three] at h0
      cases hx : litI x with
      | none => rw [hx] at h0; cases h0
      | some a =>
      cases hy : litI y with
      | none => rw [hx, hy] at h0; cases h0
      | some b =>
      cases hz : litI z with
      | none => rw [hx, hy, hz] at h0; cases h0
      | some c =>
        obtain ⟨n1, rfl, -, i1⟩ := litI_inv hx
        obtain ⟨n2, rfl, -, i2⟩ := litI_inv hy
        obtain ⟨n3, rfl, -, i3⟩ := litI_inv hz
        exact ⟨(n1, n2, n3), ⟨i1, i2, i3⟩, rfl⟩
  · cases h
/-- What a class reads as among a map's keys. -/
noncomputable def kl (q : Cl) : Lit := (keyOf Tryz.prog 71 (qV q)).getD (.bool false)
theorem keyOf_kl {q : Cl} (h : QI q) : keyOf Tryz.prog 71 (qV q) = some (kl q) := by
  obtain ⟨l, hl⟩ := keyOf_mk h
  rw [kl, hl]; rfl
theorem qV_inj {q q' : Cl} (h : qV q = qV q') : q = q' := by
  obtain ⟨a, b, c⟩ := q
  obtain ⟨a', b', c'⟩ := q'
  simp [qV] at h
  obtain ⟨rfl, rfl, rfl⟩ := h
  rfl
theorem kl_inj {q q' : Cl} (h : QI q) (h' : QI q') (he : kl q = kl q') : q = q' := by
  have h1 := keyOf_kl h
  rw [he] at h1
  exact qV_inj (lawC.inj h1 (keyOf_kl h'))
theorem kl_key {q : Cl} (h : QI q) : WideAt.IsKeyLit (kl q) := lawC.key (keyOf_kl h)

/-! ### headers of slices -/
abbrev Hd := Option (Nat × Nat × Nat)
def hdV : Hd → Value
  | none => .slice none 0 0
  | some (g, n, c) => .slice (some ⟨g, 0, none⟩) n c
def hdD : Hd → DataW Unit
  | none => .nil
  | some (g, n, c) => .slice [.lit (.int .i64 g), .lit (.int .i64 n), .lit (.int .i64 c)] []
def hdR : Value → Option (DataW Unit × List MemPlace)
  | .slice none 0 0 => some (.nil, [])
  | .slice (some ⟨g, 0, none⟩) n c => some (hdD (some (g, n, c)), [])
  | _ => none
theorem hdR_hd (h : Hd) : hdR (hdV h) = some (hdD h, []) := by
  cases h <;> rfl
theorem hdR_inv {v : Value} {y : DataW Unit × List MemPlace} (h : hdR v = some y) : ∃ x, v = hdV x ∧ y = (hdD x, []) := by
  unfold hdR at h
  split at h
  · injection h with h; exact ⟨none, rfl, h.symm⟩
  · injection h with h; exact ⟨some (_, _, _), rfl, h.symm⟩
  · cases h
theorem hdD_inj {x y : Hd} (h : hdD x = hdD y) : x = y := by
  cases x with
  | none => cases y with
    | none => rfl
    | some y => simp [hdD] at h
  | some x => cases y with
    | none => simp [hdD] at h
    | some y =>
      obtain ⟨a, b, c⟩ := x
      obtain ⟨a', b', c'⟩ := y
      simp [hdD] at h
      obtain ⟨h1, h2, h3⟩ := h
      rw [show a = a' by omega, show b = b' by omega, show c = c' by omega]
end Go.Proofs.YtinknenfhohamaaGreatDoor

namespace Go.Proofs.YtinknenfhohamaaGreatDoor
open Go.RowKit
set_option maxRecDepth 100000

def ints (S : List Nat) : List Value := S.map fun (x : Nat) => Value.int .i64 (x : Int)
/-- A row of places that the call owns, by its header. -/
def RowH (W : World) (B : Nat) (h : Hd) (S : List Nat) : Prop := W.ownsRow B 3 1 (hdV h) S.length (ints S)
theorem RowH.nil (W : World) (B : Nat) : RowH W B none [] := World.ownsRow_nil _ _ _ _
theorem ints_one (S : List Nat) : ∀ u ∈ ints S, u.oneCell' = true := by
  intro u hu
  obtain ⟨x, -, rfl⟩ := List.mem_map.1 hu
  rfl
/-- Rows behind a map's keys. -/
structure Grp (W : World) (B b n : Nat) (D : DataW Unit) (f : Cl → Hd) (T : Cl → List Nat) : Prop where
  own : W.ownsMap Tryz.prog 71 hdR b n D
  at' : ∀ q, QI q → D.atKey (kl q) .nil = hdD (f q)
  no : ∀ q, QI q → f q = none → Maps.has D (kl q) = false
  row : ∀ q, QI q → RowH W B (f q) (T q)
  apart : ∀ q q', QI q → QI q' → ∀ g n c n' c', f q = some (g, n, c) → f q' = some (g, n', c') → q = q'
  pos : ∀ q, QI q → f q ≠ none → T q ≠ []
theorem Grp.made (w : World) (B : Nat) : Grp (w.alloc (.map #[] 0)) B w.heap.size 0 (.map []) (fun _ => none) (fun _ => []) where
  own := World.ownsMap_made _ _ _ _
  at' := fun _ _ => rfl
  no := fun _ _ _ => rfl
  row := fun _ _ => RowH.nil _ _
  apart := fun _ _ _ _ _ _ _ _ _ h => by cases h
  pos := fun _ _ h => absurd rfl h
theorem Grp.kept {W W' : World} {B b n : Nat} {D : DataW Unit} {f : Cl → Hd} {T : Cl → List Nat} (h : Grp W B b n D f T) (hg : W.grownBy W' none) : Grp W' B b n D f T where
  own := h.own.kept hg (by simp)
  at' := h.at'
  no := h.no
  row := fun q hq => (h.row q hq).kept hg (by cases hdV (f q) <;> simp [Value.ownBlock] <;> (rename_i a _ _; cases a <;> simp))
  apart := h.apart
  pos := h.pos
theorem Below.grown0 {w w' : World} (h : Below w.heap.size w w') : w.grownBy w' none := ⟨h.os, h.tape, h.output, h.size, fun i hi _ => h.block i hi⟩
theorem RowH.lt {W : World} {B : Nat} {S : List Nat} {g n c : Nat} (h : RowH W B (some (g, n, c)) S) : B ≤ g ∧ g < W.heap.size := World.ownsRow.lt h g rfl
theorem RowH.form {W : World} {B : Nat} {S : List Nat} {h : Hd} (hr : RowH W B h S) (hn : 0 < S.length) : ∃ g c, h = some (g, S.length, c) := by
  obtain ⟨g, cap, hv, -, -⟩ := World.ownsRow.form hr hn
  cases h with
  | none => cases hv
  | some x =>
    obtain ⟨g', n', c'⟩ := x
    simp only [hdV, Value.slice.injEq, Option.some.injEq, Addr.mk.injEq] at hv
    obtain ⟨⟨rfl, -⟩, rfl, rfl⟩ := hv
    exact ⟨_, _, rfl⟩
theorem RowH.block {W : World} {B : Nat} {S : List Nat} {g n c : Nat} (hr : RowH W B (some (g, n, c)) S) : ∃ cur, W.heap[g]? = some (.cells cur 3 (0, 0)) ∧ n = S.length := by
  rcases hr.2 with ⟨h1, -⟩ | ⟨g', cap, cur, h1, -, h2, -⟩
  · cases h1
  · simp only [hdV, Value.slice.injEq, Option.some.injEq, Addr.mk.injEq] at h1
    obtain ⟨⟨rfl, -⟩, rfl, rfl⟩ := h1
    exact ⟨cur, h2, rfl⟩
theorem Grp.ne {W : World} {B b m : Nat} {D : DataW Unit} {f : Cl → Hd} {T : Cl → List Nat} (h : Grp W B b m D f T) {S : List Nat} {g n c : Nat} (hr : RowH W B (some (g, n, c)) S) : b ≠ g := by
  rintro rfl
  obtain ⟨es, clock, hb, _⟩ := h.own
  obtain ⟨cur, hc, -⟩ := hr.block
  rw [hb] at hc; cases hc
/-- A place is appended to the row of one key. -/
theorem Grp.next {W W0 W1 W2 : World} {B b n : Nat} {D : DataW Unit} {f : Cl → Hd} {T : Cl → List Nat} (h : Grp W B b n D f T) {q0 : Cl} (hq : QI q0) (hk : W.grownBy W0 none) (ha : W0.grownBy W1 (hdV (f q0)).ownBlock)
    {g l c j : Nat} (h1 : RowH W1 B (some (g, l, c)) (T q0 ++ [j])) (hat : some g = (hdV (f q0)).ownBlock ∨ g = W0.heap.size) (hm : W2.ownsMap Tryz.prog 71 hdR b (n + 1) (D.put (kl q0) (hdD (some (g, l, c))))) (hu : W1.grownBy W2 (some b)) :
    Grp W2 B b (n + 1) (D.put (kl q0) (hdD (some (g, l, c)))) (fun q => if q = q0 then some (g, l, c) else f q) (fun q => if q = q0 then T q0 ++ [j] else T q) := by
  have h0 := h.kept hk
  have hbg : b ≠ g := by
    rintro rfl
    obtain ⟨es, clock, hb, _⟩ := h0.own
    rcases hat with h2 | h2
    · cases hf : f q0 with
      | none => rw [hf] at h2; cases h2
      | some x =>
        obtain ⟨g', n', c'⟩ := x
        rw [hf] at h2
        injection h2 with h2
        simp only at h2
        have hr := h0.row q0 hq
        rw [hf, ← h2] at hr
        exact h0.ne hr rfl
    · have := (Array.getElem?_eq_some_iff.1 hb).1
      omega
  refine ⟨hm, ?_, ?_, ?_, ?_, ?_⟩
  · intro q hqi
    by_cases he : q = q0
    · subst he
      simp only [if_true]
      exact Maps.atKey_put_same h.own.isMap (kl_key hqi) _ _
    · simp only [if_neg he]
      rw [Maps.atKey_put_other (fun e => he (kl_inj hqi hq e))]
      exact h.at' q hqi
  · intro q hqi hf
    by_cases he : q = q0
    · rw [if_pos he] at hf; cases hf
    · rw [if_neg he] at hf
      rw [Maps.has_put_other (fun e => he (kl_inj hqi hq e))]
      exact h.no q hqi hf
  · intro q hqi
    by_cases he : q = q0
    · subst he
      simp only [if_true]
      exact World.ownsRow.kept h1 hu (.inr (by simp [hdV, Value.ownBlock]; exact Ne.symm hbg))
    · simp only [if_neg he]
      have r0 := h0.row q hqi
      have r1 : RowH W1 B (f q) (T q) := by
        refine World.ownsRow.kept r0 ha ?_
        cases hf : f q with
        | none => exact .inl rfl
        | some x =>
          refine .inr ?_
          intro e
          obtain ⟨g1, n1, c1⟩ := x
          cases hf0 : f q0 with
          | none => rw [hf0] at e; cases e
          | some y =>
            obtain ⟨g2, n2, c2⟩ := y
            rw [hf0] at e
            injection e with e
            simp only at e
            subst e
            exact he (h.apart q q0 hqi hq _ _ _ _ _ hf hf0)
      refine World.ownsRow.kept r1 hu ?_
      cases hf : f q with
      | none => exact .inl rfl
      | some x =>
        obtain ⟨g1, n1, c1⟩ := x
        rw [hf] at r0
        exact .inr (by simp [hdV, Value.ownBlock]; exact Ne.symm (h0.ne r0))
  · intro q q' hqi hqi' g1 n1 c1 n2 c2 hf hf'
    have key : ∀ q, QI q → q ≠ q0 → ∀ n1 c1, f q = some (g, n1, c1) → False := by
      intro q hqi he n1 c1 hf
      rcases hat with h2 | h2
      · cases hf0 : f q0 with
        | none => rw [hf0] at h2; cases h2
        | some x =>
          obtain ⟨g', n', c'⟩ := x
          rw [hf0] at h2
          injection h2 with h2
          simp only at h2
          subst h2
          exact he (h.apart q q0 hqi hq _ _ _ _ _ hf hf0)
      · have hr := h0.row q hqi
        rw [hf] at hr
        have := hr.lt
        omega
    by_cases he : q = q0
    · by_cases he' : q' = q0
      · rw [he, he']
      · exfalso
        rw [if_pos he] at hf
        rw [if_neg he'] at hf'
        injection hf with hf
        injection hf with hf _
        subst hf
        exact key q' hqi' he' _ _ hf'
    · by_cases he' : q' = q0
      · exfalso
        rw [if_neg he] at hf
        rw [if_pos he'] at hf'
        injection hf' with hf'
        injection hf' with hf' _
        subst hf'
        exact key q hqi he _ _ hf
      · rw [if_neg he] at hf
        rw [if_neg he'] at hf'
        exact h.apart q q' hqi hqi' _ _ _ _ _ hf hf'
  · intro q hqi hf
    by_cases he : q = q0
    · rw [if_pos he]; simp
    · rw [if_neg he] at hf ⊢
      exact h.pos q hqi hf
theorem RowH.ir {W : World} {B : Nat} {S : List Nat} {g n c : Nat} (hr : RowH W B (some (g, n, c)) S) : IR W g S := by
  have hb := hr.block
  obtain ⟨cur, -, rfl⟩ := hb
  intro j x hj
  have hjl : j < S.length := (List.getElem?_eq_some_iff.1 hj).1
  have h1 := World.ownsRow.cellAt hr j (by simpa [ints] using hjl)
  refine ⟨?_, World.ownsRow.frozenAt hr j⟩
  rw [h1]
  simp [ints, hj]
theorem Tryz.infoInt : (Tryz.prog.info? 3).map (fun i => (i.zero, i.size, i.bytes)) = some (some (.int .i64 0), 1, 8) := by kernel_rfl
/-- A place appended, at the operation. -/
theorem append_place {ops : Array Oper} {rest : List Oper} {o : Oper} {a : Act} {Q : Exit → Act → World → Prop} {w0 : World} (hgd : o.guard = none) (s x : Operand)
    (ho : o.op = .call { callee := .builtin .append, args := #[s, x], argTypes := #[76, 76] })
    {B : Nat} {h : Hd} {S : List Nat} (hs : a.eval s = hdV h) (hown : RowH w0 B h S) (hB : B ≤ w0.heap.size) (hlen : S.length ≤ 1000)
    {xb xc j : Nat} (hx : a.eval x = .slice (some ⟨xb, 0, none⟩) 1 xc) (hj : w0.cell? ⟨xb, 0, none⟩ = some (.int .i64 (j : Int)))
    (hK : ∀ g cap w', RowH w' B (some (g, S.length + 1, cap)) (S ++ [j]) → w0.grownBy w' (hdV h).ownBlock → (some g = (hdV h).ownBlock ∨ g = w0.heap.size) →
      wpList Tryz.prog ops Q rest (a.put o.dst (.slice (some ⟨g, 0, none⟩) (S.length + 1 : Nat) cap)) w') :
    wpList Tryz.prog ops Q (o :: rest) a w0 := by
  obtain ⟨i0, hi, hz0, hz1, hz2⟩ := info_parts Tryz.infoInt
  refine wpList_append_own_at _ hgd s x 76 ho B 3 i0 _ 1 8 Tryz.underlying76 hi hz0 hz1 hz2 rfl (by decide) (hdV h) S.length (ints S) hs hown ⟨xb, 0, none⟩ 1 xc [.int .i64 (j : Int)] hx rfl ?_ (by intro u hu; simp at hu; subst hu; rfl) (by unfold maxLen; omega) (by omega) hB ?_
  · intro k u hk
    cases k with
    | zero =>
      simp at hk
      subst hk
      rw [Go.WideShapes.add_plain]
      exact hj
    | succ k => simp at hk
  · intro v' w' hown' hgr _ hat
    have hr : w'.ownsRow B 3 1 v' (S ++ [j]).length (ints (S ++ [j])) := by
      have : ints (S ++ [j]) = ints S ++ [.int .i64 (j : Int)] := by simp [ints]
      rw [this, List.length_append]
      exact hown'
    obtain ⟨g, cap, rfl, -, -⟩ := World.ownsRow.form hr (by simp)
    have hl : (S ++ [j]).length = S.length + 1 := by simp
    refine hl ▸ hK g cap w' ?_ hgr ?_
    · show w'.ownsRow B 3 1 (.slice (some ⟨g, 0, none⟩) (S.length + 1 : Nat) cap) (S ++ [j]).length (ints (S ++ [j]))
      rw [hl] at hr ⊢
      exact hr
    · rcases hat with h1 | h1
      · exact .inl h1
      · injection h1 with h1; exact .inr h1
end Go.Proofs.YtinknenfhohamaaGreatDoor
