/- The frame that all statements of this seat share: what a call that turns nothing of old memory and answers true owes. No condition. How the statement's arguments read: a slice of pairs of integers. -/
import Derived.Test.YtinknenfhohamaaGreatDoorCards
import Derived.Test.YtinknenfhohamaaGreatDoorTie
import Derived.WalkKit
import Derived.ProofKit
import Derived.OpenShut
import Derived.Deep.DeepHandedRow
import Derived.Lib.LaidTab
import Derived.Lib.SmallJoins
import Derived.Test.YtinknenfhohamaaGreatDoorG27
namespace Go.Proofs.YtinknenfhohamaaGreatDoor
open Go.ChangeShapes Go.WideShapes Go.ChangeAt Go.RowKit

section
variable {H : Type} {enc : TypeId × Value → H} {P : Program}

/-- An array by value. -/
theorem okWide_array {W : World} {r : Reach} {b0 : Nat} {t e : TypeId} {n : Nat} {v : Value} (ht : P.underlying t = some (.array n e)) (h : Value.okWide P W r b0 t v) : ∃ cs, v = .agg cs ∧ cs.size = P.cellsOf t := by
  simp only [Value.okWide, ht] at h
  obtain ⟨cs, h1, h2, -⟩ := h
  exact ⟨cs, h1, h2⟩
/-- An array of strings by value. -/
theorem open_strArr {W : World} {r : Reach} {b0 base : Nat} {sp : Nat → Bool} {held : Bool} {t e : TypeId} {n : Nat} {v : Value} {d : DataW H} {p : List MemPlace} (ht : P.underlying t = some (.array n e)) (he : P.underlying e = some .string) (hc : P.cellsOf t = n) (hce : P.cellsOf e = 1)
    (hv : Value.okWide P W r b0 t v) (h : DataW.Trod enc P W base sp held t v d p) :
    ∃ ss : List ByteArray, v = .agg (ss.map Value.string).toArray ∧ ss.length = n ∧ ∀ s ∈ ss, s.size ≤ maxLen := by
  obtain ⟨cs, rfl, hsz⟩ := okWide_array ht hv
  obtain ⟨fuel, hf⟩ := h
  obtain ⟨xs, m, -, -, hlen, hxs, hel⟩ := DataW.trod_array ht hf
  have hcl : cs.toList.length = n := by simpa [Value.cells, hc] using hsz
  have key : ∀ i, i < n → ∃ s : ByteArray, cs.toList[i]? = some (.string s) ∧ s.size ≤ maxLen := by
    intro i hi
    have h1 := hel i hi
    rw [hce, Nat.mul_one] at h1
    have hx : xs[i]? = some xs[i] := by rw [List.getElem?_eq_getElem (by omega)]
    rw [hx] at h1
    obtain ⟨s, h2, -, h3⟩ := DataW.trod_string he h1
    refine ⟨s, ?_, h3⟩
    have := congrArg (·[0]?) h2
    simpa [Value.cells] using this
  suffices ∀ (l : List Value), (∀ i, i < l.length → ∃ s : ByteArray, l[i]? = some (.string s) ∧ s.size ≤ maxLen) → ∃ ss : List ByteArray, l = ss.map Value.string ∧ ∀ s ∈ ss, s.size ≤ maxLen by
    obtain ⟨ss, h1, h2⟩ := this cs.toList (by rw [hcl]; exact key)
    refine ⟨ss, ?_, ?_, h2⟩
    · rw [← h1]
    · have := congrArg List.length h1
      simp at this
      omega
  intro l
  induction l with
  | nil => intro _; exact ⟨[], rfl, by simp⟩
  | cons a l ih =>
    intro hk
    obtain ⟨s, h1, h2⟩ := hk 0 (by simp)
    obtain ⟨ss, h3, h4⟩ := ih (fun i hi => by simpa using hk (i + 1) (by simpa using hi))
    refine ⟨s :: ss, ?_, ?_⟩
    · simp at h1; simp [h1, h3]
    · intro u hu
      rcases List.mem_cons.1 hu with rfl | hu
      · exact h2
      · exact h4 u hu

/-- The arguments read behind the call as they read before it. -/
theorem trodAll_below (hl : laidOutB P = true) {W W' : World} (hb : Below W.heap.size W W') :
    ∀ {ts : List TypeId} {vs : List Value} {ds : List (DataW H)} {ps : List MemPlace}, (∀ t ∈ ts, P.readableRec t = true ∧ t < P.types.size) → (∀ x ∈ ps, x.block < W.heap.size) →
      DataW.TrodAll enc P W 0 (fun _ => true) true ts vs ds ps → DataW.TrodAll enc P W' 0 (fun b => decide (b < W.heap.size)) true ts vs ds ps
  | [], _, _, _, _, _, h => by
    obtain ⟨rfl, rfl, rfl⟩ := trodAll_nil h
    exact trodAll_mk0
  | t :: ts, _, _, _, ht, hp, h => by
    obtain ⟨v, vs, d, ds, p, q, rfl, rfl, rfl, h1, h2⟩ := trodAll_cons h
    exact trodAll_cons_mk (Below.trod hl (ht t (by simp)).1 (ht t (by simp)).2 h1 hb (fun x hx => hp x (by simp [hx])))
      (trodAll_below hl hb (fun u hu => ht u (by simp [hu])) (fun x hx => hp x (by simp [hx])) h2)

/-- What a law's call owes: it has answered true, and nothing that lay is turned. -/
theorem law_post {f : Func} {s : ChangeSpec} {W W' : World} {args : Array Value} {ds : List (DataW H)} {before : List MemPlace} {t : TypeId}
    (hl : laidOutB P = true) (hr : ∀ u ∈ f.params.toList, P.readableRec u = true ∧ u < P.types.size) (hv : s.vars = [])
    (hW : DataW.Whole enc P f.params.toList s.vars false W args.toList ds [] before)
    (hres : f.resultTypes = #[t]) (ht : P.underlying t = some .bool)
    (hs1 : (s.fn H (ds ++ [])).results = [.lit (.bool true)]) (hs2 : (s.fn H (ds ++ [])).args = ds) (hs3 : (s.fn H (ds ++ [])).vars = []) (hb : Below W.heap.size W W') :
    s.post enc P f false true false false W args (.bool true) W' := by
  have hlt : ∀ p ∈ before, p.block < W.heap.size := fun p hp => by simpa using hW.lt p hp
  have hW0 := hW
  obtain ⟨p, q, hA, hV, rfl, -, -⟩ := hW0
  rw [hv] at hV
  obtain ⟨-, rfl⟩ := trodVars_none hV
  refine ⟨ds, [], p ++ [], [], p, [], hW, ?_, ?_, ?_, ?_, fun h => by cases h⟩
  · rw [hres, hs1]
    exact trodAll_mk1 (shut_bool ht true)
  · rw [hs2]
    exact trodAll_below hl hb hr (fun x hx => hlt x (by simpa using hx)) hA
  · rw [hv, hs3]
    exact rfl
  · exact World.keptBut_mono (fun x hx => ⟨hx, .inr (.inl (by simpa using hx))⟩) (hb.frame (· ∈ p ++ []))
end

theorem int_bounds {c : Int} (h : (Lit.int .i64 c).wf = true) : -9223372036854775808 ≤ c ∧ c ≤ 9223372036854775807 := by
  simp [Lit.wf, IntKind.min, IntKind.max, IntKind.bits, IntKind.signed] at h
  omega
theorem own : ownKnob Tryz.prog.godebug = none := by kernel_rfl
theorem laidOut : laidOutB Tryz.prog = true := by kernel_rfl
end Go.Proofs.YtinknenfhohamaaGreatDoor

namespace Go.Proofs.YtinknenfhohamaaGreatDoor
set_option maxRecDepth 100000
open Go.ChangeShapes Go.WideShapes Go.ChangeAt Go.RowKit

section
variable {H : Type} {enc : TypeId × Value → H} {P : Program}

theorem cells?_get {w : World} {base : Nat} {a : Addr} {n : Nat} {cs : List Value} (h : w.cells? base a n = some cs) : cs.length = n ∧ ∀ i, i < n → w.cell? (a.add i) = cs[i]? := by
  unfold World.cells? at h
  split at h
  · have key : ∀ (l : List Nat) (cs : List Value), l.mapM (fun i => w.cell? (a.add i)) = some cs → cs.length = l.length ∧ ∀ (j i : Nat), l[j]? = some i → w.cell? (a.add i) = cs[j]? := by
      intro l
      induction l with
      | nil => intro cs h; simp at h; subst h; exact ⟨rfl, by simp⟩
      | cons x l ih =>
        intro cs h
        rw [List.mapM_cons] at h
        cases hx : w.cell? (a.add x) with
        | none => rw [hx] at h; simp at h
        | some v =>
          rw [hx] at h
          cases hl : l.mapM (fun i => w.cell? (a.add i)) with
          | none => rw [hl] at h; simp at h
          | some vs =>
            rw [hl] at h
            simp at h
            subst h
            obtain ⟨h1, h2⟩ := ih vs hl
            refine ⟨by simp [h1], ?_⟩
            intro j i hj
            cases j with
            | zero => simp at hj; subst hj; simpa using hx
            | succ j => simpa using h2 j i (by simpa using hj)
    obtain ⟨h1, h2⟩ := key _ _ h
    refine ⟨by simpa using h1, fun i hi => h2 i i (by rw [List.getElem?_range hi])⟩
  · cases h
/-- An array of integers. -/
theorem trod_intArr {w : World} {base fuel n : Nat} {sp : Nat → Bool} {held : Bool} {t e : TypeId} {cs : List Value} {x : DataW H × List MemPlace} (ht : P.underlying t = some (.array n e)) (he : P.underlying e = some (.int .i64)) (hc : P.cellsOf t = n) (hce : P.cellsOf e = 1)
    (h : DataW.trod enc P w base sp held fuel t cs = some x) : ∃ zs : List Int, cs = zs.map (Value.int .i64) ∧ zs.length = n ∧ ∀ z ∈ zs, I64 z := by
  obtain ⟨xs, m, -, -, hlen, hxsl, hel⟩ := DataW.trod_array ht h
  rw [hc] at hlen
  have key : ∀ i, i < n → ∃ z : Int, cs[i]? = some (.int .i64 z) ∧ I64 z := by
    intro i hi
    have h1 := hel i hi
    rw [hce, Nat.mul_one] at h1
    have hxl : i < xs.length := by omega
    rw [List.getElem?_eq_getElem hxl] at h1
    obtain ⟨z, h2, -, h3⟩ := DataW.trod_int he h1
    refine ⟨z, ?_, int_bounds h3⟩
    have := congrArg (·[0]?) h2
    simpa using this
  suffices ∀ (l : List Value), (∀ i, i < l.length → ∃ z : Int, l[i]? = some (.int .i64 z) ∧ I64 z) → ∃ zs : List Int, l = zs.map (Value.int .i64) ∧ ∀ z ∈ zs, I64 z by
    obtain ⟨zs, h1, h2⟩ := this cs (by rw [hlen]; exact key)
    exact ⟨zs, h1, by have := congrArg List.length h1; simp at this; omega, h2⟩
  intro l
  induction l with
  | nil => intro _; exact ⟨[], rfl, by simp⟩
  | cons a l ih =>
    intro hk
    obtain ⟨z, h1, h2⟩ := hk 0 (by simp)
    obtain ⟨zs, h3, h4⟩ := ih (fun i hi => by simpa using hk (i + 1) (by simpa using hi))
    refine ⟨z :: zs, ?_, ?_⟩
    · simp at h1; simp [h1, h3]
    · intro u hu
      rcases List.mem_cons.1 hu with rfl | hu
      · exact h2
      · exact h4 u hu
/-- A slice of arrays of integers. -/
theorem open_rows {w : World} {base fuel n : Nat} {sp : Nat → Bool} {held : Bool} {t e i : TypeId} {cs : List Value} {x : DataW H × List MemPlace} (ht : P.underlying t = some (.slice e)) (he : P.underlying e = some (.array n i)) (hi : P.underlying i = some (.int .i64)) (hc : P.cellsOf e = n) (hci : P.cellsOf i = 1)
    (h : DataW.trod enc P w base sp held fuel t cs = some x) : cs = [.slice none 0 0] ∨ ∃ (a : Addr) (len cap : Nat), cs = [.slice (some a) len cap] ∧ len ≤ cap ∧ cap ≤ maxLen ∧
      ∀ j, j < len → ∃ zs : List Int, zs.length = n ∧ (∀ z ∈ zs, I64 z) ∧ ∀ q, q < n → w.cell? ((a.add (j * n)).add q) = some (.int .i64 (zs.getD q 0)) := by
  rcases DataW.trod_slice ht h with h0 | ⟨a, len, cap, elems, rest, m, -, rfl, -, -, hl, hm, hlen, hel, -, -⟩
  · exact .inl h0.1
  refine .inr ⟨a, len, cap, rfl, hl, hm, ?_⟩
  intro j hj
  have h1 := hel j hj
  rw [List.getElem?_eq_getElem (by omega), Option.bind_eq_some_iff] at h1
  obtain ⟨ds, h2, h3⟩ := h1
  rw [hc] at h2
  obtain ⟨zs, rfl, h5, h6⟩ := trod_intArr he hi hc hci h3
  refine ⟨zs, h5, h6, ?_⟩
  intro q hq
  have h7 := (cells?_get h2).2 q hq
  rw [h7, List.getElem?_map, List.getD_eq_getElem?_getD, List.getElem?_eq_getElem (by omega)]; rfl
/-- The same in a plain address. -/
theorem open_rows_at {w : World} {a : Addr} {len n : Nat} (hn : 0 < n) (hl : 0 < len) (h : ∀ j, j < len → ∃ zs : List Int, zs.length = n ∧ (∀ z ∈ zs, I64 z) ∧ ∀ q, q < n → w.cell? ((a.add (j * n)).add q) = some (.int .i64 (zs.getD q 0))) :
    ∃ b o, a = ⟨b, o, none⟩ ∧ b < w.heap.size ∧ ∀ j, j < len → ∃ zs : List Int, zs.length = n ∧ (∀ z ∈ zs, I64 z) ∧ ∀ q, q < n → w.cell? ⟨b, o + j * n + q, none⟩ = some (.int .i64 (zs.getD q 0)) := by
  obtain ⟨zs0, -, -, h0⟩ := h 0 hl
  have h00 := h0 0 hn
  have ha : (a.add (0 * n)).add 0 = a := by simp [Addr.add]
  rw [ha] at h00
  obtain ⟨b, o, sp⟩ := a
  have hsp : sp = none := by simpa using World.cell?_spot h00
  subst hsp
  refine ⟨b, o, rfl, World.block_lt_of_cell? _ _ h00, ?_⟩
  intro j hj
  obtain ⟨zs, h1, h2, h3⟩ := h j hj
  refine ⟨zs, h1, h2, fun q hq => ?_⟩
  have := h3 q hq
  rw [Go.WideShapes.add_plain, Go.WideShapes.add_plain] at this
  exact this
/-- Lists of what lies there. -/
theorem choose_rows {α : Type} {len : Nat} {p : Nat → α → Prop} (h : ∀ j, j < len → ∃ x, p j x) : ∃ l : List α, l.length = len ∧ ∀ j x, l[j]? = some x → p j x := by
  induction len with
  | zero => exact ⟨[], rfl, by simp⟩
  | succ n ih =>
    obtain ⟨l, h1, h2⟩ := ih (fun j hj => h j (by omega))
    obtain ⟨x, hx⟩ := h n (by omega)
    refine ⟨l ++ [x], by simp [h1], ?_⟩
    intro j y hy
    rcases Nat.lt_or_ge j n with hj | hj
    · rw [List.getElem?_append_left (by omega)] at hy; exact h2 j y hy
    · have hjl : j < n + 1 := by
        have := (List.getElem?_eq_some_iff.1 hy).1
        simp [h1] at this; omega
      obtain rfl : j = n := by omega
      rw [List.getElem?_append_right (by omega), h1, Nat.sub_self] at hy
      simp at hy
      subst hy; exact hx
end

theorem pr_of {W : World} {a : Addr} {len : Nat} (h : ∀ j, j < len → ∃ zs : List Int, zs.length = 2 ∧ (∀ z ∈ zs, I64 z) ∧ ∀ q, q < 2 → W.cell? ((a.add (j * 2)).add q) = some (.int .i64 (zs.getD q 0))) :
    ∃ Y : List (Int × Int), Y.length = len ∧ PrS W (some a) Y ∧ PrI Y := by
  rcases Nat.eq_zero_or_pos len with rfl | hl
  · exact ⟨[], rfl, (by intro i p hi; simp at hi), (by intro p hp; cases hp)⟩
  obtain ⟨b, o, rfl, hb, h2⟩ := open_rows_at (by omega) hl h
  obtain ⟨Y, h3, h4⟩ := choose_rows (α := Int × Int) (p := fun j x => (I64 x.1 ∧ I64 x.2) ∧ W.cell? ⟨b, o + j * 2, none⟩ = some (.int .i64 x.1) ∧ W.cell? ⟨b, o + j * 2 + 1, none⟩ = some (.int .i64 x.2)) (fun j hj => by
    obtain ⟨zs, e1, e2, e3⟩ := h2 j hj
    match zs, e1, e2, e3 with
    | [x, y], _, e2, e3 => exact ⟨⟨x, y⟩, ⟨e2 x (by simp), e2 y (by simp)⟩, e3 0 (by omega), e3 1 (by omega)⟩)
  refine ⟨Y, h3, ?_, ?_⟩
  · intro i p hi
    exact ⟨b, o, rfl, hb, (h4 i p hi).2⟩
  · intro p hp
    obtain ⟨i, hi⟩ := List.getElem?_of_mem hp
    exact (h4 i p hi).1
/-- A slice of pairs as an argument. -/
theorem arg_prs {H : Type} {enc : TypeId × Value → H} {W : World} {base : Nat} {sp : Nat → Bool} {held : Bool} {pa : Option Addr} {la ca : Nat} {d : DataW H} {p : List MemPlace} (h : DataW.Trod enc Tryz.prog W base sp held 22 (.slice pa la ca) d p) :
    ∃ Y : List (Int × Int), Y.length = la ∧ PrS W pa Y ∧ PrI Y ∧ la ≤ maxLen := by
  obtain ⟨f, g⟩ := h
  rcases open_rows (n := 2) Tryz.underlying22 Tryz.underlying53 Tryz.underlying3 (by kernel_rfl) (by kernel_rfl) g with h0 | ⟨a, len, cap, h0, h1, h2, h3⟩
  · have h0' : Value.slice pa la ca = .slice none 0 0 := by simpa [Value.cells] using h0
    cases h0'
    exact ⟨[], rfl, (by intro i p hi; simp at hi), (by intro p hp; cases hp), Nat.zero_le _⟩
  · have h0' : Value.slice pa la ca = .slice (some a) len cap := by simpa [Value.cells] using h0
    cases h0'
    obtain ⟨Y, k1, k2, k3⟩ := pr_of h3
    exact ⟨Y, k1, k2, k3, Nat.le_trans h1 h2⟩
end Go.Proofs.YtinknenfhohamaaGreatDoor
