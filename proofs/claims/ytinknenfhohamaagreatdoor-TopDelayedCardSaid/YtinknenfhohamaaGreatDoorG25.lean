/- The inputs of the statements: pick, relation, agree, Some. -/
import Derived.Test.YtinknenfhohamaaGreatDoorG24
import Derived.Test.YtinknenfhohamaaGreatDoorG23
import Derived.Test.YtinknenfhohamaaGreatDoorG17
import Derived.Deep.RegionHeld3
namespace Go.Proofs.YtinknenfhohamaaGreatDoor
open Go.RowKit
set_option maxRecDepth 100000

theorem pick_small {c n : Int} (hn : 1 ≤ n) : ∃ p, pick c n = p ∧ 0 ≤ p ∧ p < n := ⟨_, rfl, pick_lo hn, pick_hi hn⟩
/-- Numbers that the machine can hold. -/
def EvI (X : List Ev) : Prop := ∀ e ∈ X, I64 e.tm ∧ I64 e.kd ∧ I64 e.a ∧ I64 e.b
theorem EvI.tm {X : List Ev} (h : EvI X) : TmI X := fun e he => (h e he).1
theorem EvI.cl {X : List Ev} (h : EvI X) : ClI X := fun e he => (h e he).2
theorem Sml.evI {m : Int} {X : List Ev} (h : Sml m X) (hm : m ≤ 20000) : EvI X := fun e he => by
  have := h e he
  unfold I64
  omega
theorem compare_in (r : Rel) (a : Option Addr) (c : Nat) (X : List Ev) (a' : Option Addr) (c' : Nat) (Y : List Ev) (w : World) (hS : EvS w a X) (hM : EvS w a' Y) (hX : X.length < 40) (hY : Y.length < 40) (hI : EvI X) (hJ : EvI Y) :
    Calls Tryz.prog 8 #[relV r, .slice a X.length c, .slice a' Y.length c'] w fun e w' => e = .returned (cmpV (compareR r X Y)) ∧ Below w.heap.size w w' := compare_any' r a c X a' c' Y w hS hM hX hY hI.tm hJ.tm hI.cl hJ.cl
/-- Quadruples that a slice holds. -/
def QdS (W : World) (a : Option Addr) (X : List Qd) : Prop := ∀ i p, X[i]? = some p → ∃ b o, a = some ⟨b, o, none⟩ ∧ b < W.heap.size ∧ W.cell? ⟨b, o + i * 4, none⟩ = some (.int .i64 p.x) ∧ W.cell? ⟨b, o + i * 4 + 1, none⟩ = some (.int .i64 p.y) ∧ W.cell? ⟨b, o + i * 4 + 2, none⟩ = some (.int .i64 p.z) ∧ W.cell? ⟨b, o + i * 4 + 3, none⟩ = some (.int .i64 p.u)
theorem QdS.below {W W1 : World} {a : Option Addr} {X : List Qd} (h : QdS W a X) (hw : Below W.heap.size W W1) : QdS W1 a X := by
  intro i s hi
  obtain ⟨b, o, ha, hb, h0, h1, h2, h3⟩ := h i s hi
  exact ⟨b, o, ha, Nat.lt_of_lt_of_le hb hw.size, ((bcell hw).1 b _ hb).trans h0, ((bcell hw).1 b _ hb).trans h1, ((bcell hw).1 b _ hb).trans h2, ((bcell hw).1 b _ hb).trans h3⟩
def QdI (X : List Qd) : Prop := ∀ p ∈ X, I64 p.x ∧ I64 p.y ∧ I64 p.z ∧ I64 p.u
theorem lastT_some (X : List Qd) : ∀ t, t ≤ lastT t (someFrom t X) ∧ lastT t (someFrom t X) ≤ t + 8 * X.length := by
  induction X with
  | nil => intro t; simp [someFrom, lastT]
  | cons q X ih =>
    intro t
    have h := ih (t + pick q.x 9)
    have h1 := pick_lo (c := q.x) (n := 9) (by omega)
    have h2 := pick_hi (c := q.x) (n := 9) (by omega)
    have e : lastT t (someFrom t (q :: X)) = lastT (t + pick q.x 9) (someFrom (t + pick q.x 9) X) := rfl
    rw [e]
    simp only [List.length_cons]
    push_cast
    omega
end Go.Proofs.YtinknenfhohamaaGreatDoor
