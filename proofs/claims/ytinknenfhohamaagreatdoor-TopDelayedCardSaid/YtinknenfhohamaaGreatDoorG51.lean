/- awake is true. The listed tables in the witness's world. -/
import Derived.Test.YtinknenfhohamaaGreatDoorG44
import Derived.Test.YtinknenfhohamaaGreatDoorG46
import Derived.Test.YtinknenfhohamaaGreatDoorG50
import Derived.Test.YtinknenfhohamaaGreatDoorRows
import Derived.Lib.LaidIn
import Derived.Lib.LaidCaseMet
import Derived.Great.CaseRows
import Derived.PinnedBridge
namespace Go.Proofs.YtinknenfhohamaaGreatDoor
open Go.RowKit Go.Shelf
set_option maxRecDepth 100000

set_option maxHeartbeats 2000000 in
theorem awake_any (w : World) : Calls Tryz.prog 4 #[] w fun e w' => e = .returned (.bool true) ∧ Below w.heap.size w w' := by
  go_enter Tryz.func4, Tryz.ntmps4
  go_wp2_with fail
  obtain ⟨n, hn⟩ : ∃ n, w.heap.size = n := ⟨_, rfl⟩
  rw [hn]
  obtain ⟨w1, hw1⟩ : ∃ w1, ((w.alloc (.cells #[.string { data := #[65, 98] }, .int .i64 2] 39)).alloc (.cells #[.int .i64 0, .int .i64 0, .bool false, .int .i64 5, .int .i64 0, .int .i64 0, .int .i64 0, .int .i64 1, .bool false, .int .i64 7, .int .i64 0, .int .i64 0, .int .i64 1, .int .i64 1, .bool true, .int .i64 0, .int .i64 0, .int .i64 0] 42)).alloc (.cells #[.slice (some ⟨n, 0, none⟩) 1 1, .slice (some ⟨n + 1, 0, none⟩) 3 3, .int .i64 0, .string { data := #[] }] 45) = w1 := ⟨_, rfl⟩
  rw [hw1]
  have hb1 : Below w.heap.size w w1 := by rw [← hw1]; exact (((Below.refl _ _).alloc (Nat.le_refl _) _).alloc (by rw [size_alloc]; omega) _).alloc (by rw [size_alloc, size_alloc]; omega) _
  have hl1 : w1.heap[n]? = some (.cells #[.string { data := #[65, 98] }, .int .i64 2] 39 (0, 0)) := by rw [← hw1, ← hn]; exact allocs_heap [_, _, _] w 0 _ rfl
  have hc1 : w1.heap[n + 1]? = some (.cells cellsA 42 (0, 0)) := by rw [← hw1, ← hn]; exact allocs_heap [_, _, _] w 1 _ rfl
  have hx1 : w1.heap[n + 1 + 1]? = some (.cells #[.slice (some ⟨n, 0, none⟩) 1 1, .slice (some ⟨n + 1, 0, none⟩) 3 3, .int .i64 0, .string { data := #[] }] 45 (0, 0)) := by rw [← hw1, ← hn]; exact allocs_heap [_, _, _] w 2 _ rfl
  have HB1 := Lib.hid hb1
  have HD1 := Lib.hid (DocAt.mk hl1 hc1)
  have HX1 := Lib.hid hx1
  clear hb1 hl1 hc1 hx1 hw1 hn
  refine (value_any n (n + 1) w1 HD1.out).mono ?_
  rintro e w2 ⟨rfl, hb2⟩
  have HB2 := Lib.hid (HB1.out.trans (hb2.mono HB1.out.size))
  have HX2 := Lib.hid ((hb2.block (n + 1 + 1) (Array.getElem?_eq_some_iff.1 HX1.out).1).trans HX1.out)
  have HD2 := Lib.hid (HD1.out.below hb2)
  have b0 : w2.cell? ⟨n + 1 + 1, 0, none⟩ = some (.slice (some ⟨n, 0, none⟩) 1 1) := by rw [Lib.cell_of_heap HX2.out]; rfl
  have b1 : w2.cell? ⟨n + 1 + 1, 1, none⟩ = some (.slice (some ⟨n + 1, 0, none⟩) 3 3) := by rw [Lib.cell_of_heap HX2.out]; rfl
  have b2 : w2.cell? ⟨n + 1 + 1, 2, none⟩ = some (.int .i64 0) := by rw [Lib.cell_of_heap HX2.out]; rfl
  have b3 : w2.cell? ⟨n + 1 + 1, 3, none⟩ = some (.string { data := #[] }) := by rw [Lib.cell_of_heap HX2.out]; rfl
  clear hb2
  go_wp2_with fail
  refine (property_any n (n + 1) w2 HD2.out).mono ?_
  rintro e w3 ⟨rfl, hb3⟩
  have HB3 := Lib.hid (HB2.out.trans (hb3.mono HB2.out.size))
  clear hb3 b0 b1 b2 b3
  go_wp2_with fail
  obtain ⟨w4, hw4⟩ : ∃ w4, w3.alloc (.cells #[.int .i64 1, .int .i64 0] 51) = w4 := ⟨_, rfl⟩
  rw [hw4]
  have hs4 : w4.heap[w3.heap.size]? = some (.cells #[.int .i64 1, .int .i64 0] 51 (0, 0)) := by rw [← hw4]; exact heap_alloc_new _ _
  have HB4 := Lib.hid (show Below w.heap.size w w4 by rw [← hw4]; exact HB3.out.alloc HB3.out.size _)
  clear hw4
  refine (apply_any w3.heap.size w4 hs4).mono ?_
  rintro e w5 ⟨rfl, hb5⟩
  have HB5 := Lib.hid (HB4.out.trans (hb5.mono HB4.out.size))
  clear hb5 hs4
  go_wp2_with fail
  go_ret
  exact ⟨rfl, HB5.out⟩
end Go.Proofs.YtinknenfhohamaaGreatDoor

namespace Go.Proofs.YtinknenfhohamaaGreatDoor
open Go.Great
set_option maxRecDepth 100000

/-- A world for the witness: the settled one and the rows of unicode.CaseRanges; the three variables holding what their initialisers lay. -/
noncomputable def laidWorld (os : Os) : World :=
  let N := (World.settled Tryz.prog os).heap.size
  let w0 := World.holding Tryz.prog os ⟨#[.cells (Lib.caseT.flatMap Lib.cells5).toArray 239], #[], []⟩
  let put (h : Array Obj) (g : Nat) (cs : Array Value) : Array Obj := h.modify g fun
    | .cells _ t frozen => .cells cs t frozen
    | o => o
  let h1 := put w0.heap 0 (Lib.firstTab.map fun z => Value.int .u8 z).toArray
  let h2 := put h1 1 ((List.range 16).flatMap fun i => [Value.int .u8 (Lib.accLo i), Value.int .u8 (Lib.accHi i)]).toArray
  let h3 := put h2 2 #[.slice (some ⟨N, 0, none⟩) 336 336]
  { w0 with heap := h3 }
theorem caseTypes : CTypes Tryz.prog 230 239 237 199 21 := ⟨Tryz.underlying230, Tryz.underlying239, Tryz.underlying237, Tryz.underlying199, Tryz.underlying21, by kernel_rfl, by kernel_rfl, by kernel_rfl, by kernel_rfl⟩
theorem laid_met_top (os : Os) (args : Array Value) : laidMet Tryz.prog Rows.topDelayedRow.laid ((laidWorld os).forCall (fun _ _ => 0) ⟨#[], args, []⟩).memory := by
  have p1 : LaidIn Tryz.prog ((laidWorld os).forCall (fun _ _ => 0) ⟨#[], args, []⟩).memory [("unicode/utf8.acceptRanges", Rows.laid_unicode_utf8_acceptRanges)] [1] :=
    LaidIn.of_run _ 10 (by kernel_rfl) (by kernel_rfl) (by kernel_rfl) (by kernel_rfl)
  have p2 : LaidIn Tryz.prog ((laidWorld os).forCall (fun _ _ => 0) ⟨#[], args, []⟩).memory [("unicode.CaseRanges", Lib.caseData)] [2, (World.settled Tryz.prog default).heap.size] :=
    laidIn_case caseTypes (name := "unicode.CaseRanges") (tg := 230) (tb := 239) Lib.caseT (by kernel_rfl) (by kernel_rfl) (Nat.le_of_ble_eq_true (by kernel_rfl)) (by kernel_rfl) (by kernel_rfl) (by kernel_rfl) (Nat.ne_of_beq_eq_false (by kernel_rfl))
  have p3 : LaidIn Tryz.prog ((laidWorld os).forCall (fun _ _ => 0) ⟨#[], args, []⟩).memory [("unicode/utf8.first", Lib.firstData)] [0] :=
    LaidIn.of_run _ 10 (by kernel_rfl) (by kernel_rfl) (by kernel_rfl) (by kernel_rfl)
  have hp := ((p1.append p2 (by kernel_rfl)).append p3 (by kernel_rfl)).met
  show laidMet Tryz.prog [("unicode/utf8.acceptRanges", Rows.laid_unicode_utf8_acceptRanges), ("unicode.CaseRanges", Go.Pinned.caseRanges), ("unicode/utf8.first", Go.Pinned.utf8First)] _
  rw [Pinned.caseRanges_eq, Pinned.utf8First_eq]
  exact hp
end Go.Proofs.YtinknenfhohamaaGreatDoor
