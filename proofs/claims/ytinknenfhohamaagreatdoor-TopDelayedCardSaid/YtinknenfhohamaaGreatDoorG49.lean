/- Package abstraction: read at the text of the fixed property. Package abstraction: fold over the lines. -/
import Derived.Test.YtinknenfhohamaaGreatDoorG48
import Derived.Deep.AppendLies
import Derived.Deep.RegionLaw
import Derived.StillTailTactics
namespace Go.Proofs.YtinknenfhohamaaGreatDoor
open Go.RowKit Go.Shelf
set_option maxRecDepth 100000

/-- The cells of the one line. -/
def lineCs : List Value := [.string { data := #[65, 98] }, .slice none 0 0]
theorem infoLine : (Tryz.prog.info? 147).map (fun i => (i.zero, i.size, i.bytes)) = some (some (.agg #[.string { data := #[] }, .slice none 0 0]), 2, 40) := by kernel_rfl
theorem nil_size : (("" : String).toByteArray.size) = 0 := rfl

theorem owns_le {w : World} {base base' size n : Nat} {e : TypeId} {v : Value} {xs : List Value} (h : w.ownsRow base e size v n xs) (hb : base' ≤ base) : w.ownsRow base' e size v n xs := by
  refine ⟨h.1, ?_⟩
  rcases h.2 with h2 | ⟨g, cap, cur, h1, h2, h3⟩
  · exact .inl h2
  · exact .inr ⟨g, cap, cur, h1, Nat.le_trans hb h2, h3⟩
theorem owns_setRow {w : World} {base size n k : Nat} {e : TypeId} {v : Value} {xs : List Value} (h : w.ownsRow base e size v n xs) (hk : k < base) (cs : Array Value) : (w.setRow k cs).ownsRow base e size v n xs := by
  refine ⟨h.1, ?_⟩
  rcases h.2 with h2 | ⟨g, cap, cur, h1, h2, h3, h4⟩
  · exact .inl h2
  · exact .inr ⟨g, cap, cur, h1, h2, (setRow_other _ _ _ _ (by omega)).trans h3, h4⟩
set_option maxHeartbeats 2000000 in
theorem read_any (w : World) :
    Calls Tryz.prog 36 #[.int .i64 1, .string txt] w fun e w' => ∃ g cap, e = .returned (.agg #[.bool false, .slice (some ⟨g, 0, none⟩) 1 cap, .int .i64 0, .int .i64 0, .string { data := #[] }]) ∧ w'.ownsRow w.heap.size 147 2 (.slice (some ⟨g, 0, none⟩) 1 cap) 1 lineCs ∧ Below w.heap.size w w' := by
  have HW := Lib.hid (show ∀ W, Calls Tryz.prog 72 #[.int .i64 1, .int .i64 1, .int .i64 8] W fun e w' => e = .returned (.bool true) ∧ W = w' from within_a 1 1 8)
  obtain ⟨n, hn⟩ : ∃ n, w.heap.size = n := ⟨_, rfl⟩
  obtain ⟨w1, hw1⟩ : ∃ w1, ((w.alloc (.cells #[.bool false, .slice none 0 0, .int .i64 0, .int .i64 0, .string { data := #[] }] 104)).alloc (.cells #[.bool false, .slice none 0 0, .int .i64 0, .int .i64 0, .string { data := #[] }] 104)).alloc (.cells #[.string txt, .int .i64 0] 144) = w1 := ⟨_, rfl⟩
  have hb1 : Below w.heap.size w w1 := by rw [← hw1]; exact (((Below.refl _ _).alloc (Nat.le_refl _) _).alloc (by rw [size_alloc]; omega) _).alloc (by rw [size_alloc, size_alloc]; omega) _
  have hs1 : w1.heap.size = n + 1 + 1 + 1 := by rw [← hw1, size_alloc, size_alloc, size_alloc, hn]
  have hr1 : w1.heap[n]? = some (.cells #[.bool false, .slice none 0 0, .int .i64 0, .int .i64 0, .string { data := #[] }] 104 (0, 0)) := by rw [← hw1, ← hn]; exact allocs_heap [_, _, _] w 0 _ rfl
  have hv1 : w1.heap[n + 1]? = some (.cells #[.bool false, .slice none 0 0, .int .i64 0, .int .i64 0, .string { data := #[] }] 104 (0, 0)) := by rw [← hw1, ← hn]; exact allocs_heap [_, _, _] w 1 _ rfl
  have hx1 : w1.heap[n + 1 + 1]? = some (.cells #[.string txt, .int .i64 0] 144 (0, 0)) := by rw [← hw1, ← hn]; exact allocs_heap [_, _, _] w 2 _ rfl
  have HNU := Lib.hid (number_any (n + 1 + 1) w1 hx1)
  have HB1 := Lib.hid hb1
  have HS1 := Lib.hid hs1
  have HN := Lib.hid hn
  have HR1 := Lib.hid hr1
  have HV1 := Lib.hid hv1
  clear hb1 hs1 hr1 hv1 hx1
  have htx : txt.toList.isEmpty = false := by decide +kernel
  go_enter Tryz.func36, Tryz.ntmps36
  go_wp2_with fail
  refine (HW.out _).mono ?_
  rintro e w5 ⟨rfl, rfl⟩
  go_wp2_with fail
  refine (must_any _).mono ?_
  rintro e w5 ⟨rfl, rfl⟩
  go_wp2_with fail
  refine HNU.out.mono ?_
  rintro e w2 ⟨rfl, hx2, ho2⟩
  have HX2 := Lib.hid hx2
  have HR2 := Lib.hid ((ho2.block n (by omega)).trans HR1.out)
  have HV2 := Lib.hid ((ho2.block (n + 1) (by omega)).trans HV1.out)
  have HB2 := Lib.hid (HB1.out.trans (ho2.below (B := w.heap.size) (by omega)))
  have HS2 := Lib.hid (ho2.size.trans HS1.out)
  clear hx2 ho2
  go_wp2_with fail
  refine wp_loop_rounds 2 ?_
  rw [rounds_succ]
  have v1 : w2.cell? ⟨n + 1, 1, none⟩ = some (.slice none 0 0) := by rw [Lib.cell_of_heap HV2.out]; rfl
  clear hn hw1
  go_upto_block 2 with fail
  go_cut [25] (fun _ wx => ∃ g cap, wx.ownsRow (n + 1 + 1) 147 2 (.slice (some ⟨g, 0, none⟩) 1 cap) 1 lineCs ∧ wx.heap[n + 1]? = some (.cells #[.bool false, .slice (some ⟨g, 0, none⟩) 1 cap, .int .i64 0, .int .i64 0, .string { data := #[] }] 104 (0, 0)) ∧ wx.heap[n]? = some (.cells #[.bool false, .slice none 0 0, .int .i64 0, .int .i64 0, .string { data := #[] }] 104 (0, 0)) ∧ wx.heap[n + 1 + 1]? = some (.cells #[.string txt, .int .i64 4] 144 (0, 0)) ∧ Below w.heap.size w wx)
  case first =>
    obtain ⟨i0, hi, hz0, hz1, hz2⟩ := info_parts infoLine
    have HII := Lib.hid (And.intro hi (And.intro hz0 (And.intro hz1 hz2)))
    clear hi hz0 hz1 hz2
    go_upto_region 6 with fail
    go_region_law
      ((first
        | (go_simp; go_at_call 79; refine (line_any (n + 1 + 1) w2.drew HX2.out).mono ?_; rintro e w6 ⟨rfl, hx6, hb6⟩; have m6 : w2.heap.size ≤ w6.heap.size := hb6.size; have mv := (hb6.block (n + 1) (Nat.lt_of_lt_of_eq (by omega) HS2.out.symm) (by omega)).trans HV2.out; have m1 := (Lib.cell_of_heap mv 1); have m2 := fun o => (alloc_cell1 w6 o (n + 1) 1 (Array.getElem?_eq_some_iff.1 mv).1).trans m1)
        | (refine step_append_lies _ rfl (.tmp 18) (.tmp 24) 102 (by rfl) w6.heap.size 147 i0 _ 2 40 Tryz.underlying102 HII.out.1 HII.out.2.1 HII.out.2.2.1 HII.out.2.2.2 rfl (by decide) (.slice none 0 0) 0 [] (by simp [Act.eval]) (World.ownsRow_nil _ _ _ _) ⟨w6.heap.size, 0, none⟩ 1 1 lineCs (by simp [Act.eval]) rfl (World.news_of_block (heap_alloc_new w6 _)) (by simp [lineCs, Value.oneCell']) (by decide) (by decide) (by decide) (by rw [size_alloc]; omega) _ rfl ?_; intro g cap w7 hown hgrow hat hlt; have hb7 := ((Below.refl w6.heap.size w6).alloc (Nat.le_refl _) _).grown hgrow (by rw [size_alloc]; omega) (fun k hk => absurd hk (by simp [Value.ownBlock])); have mv7 := (hb7.block (n + 1) (Array.getElem?_eq_some_iff.1 mv).1).trans mv; have m7 := Lib.cell_of_heap mv7 1; have f7 := Lib.frozen_of_heap mv7 1)))
    all_goals
      go_wp2_with fail
      go_meet
      have e1 := HN.out
      have e2 := HS2.out
      refine ⟨g, cap, owns_le (ownsRow_setCell_below hown (a := ⟨n + 1, 1, none⟩) (by show n + 1 < w6.heap.size; omega) _) (by omega), set_at (n := 0) mv7, ?_, ?_, ?_⟩
      · exact (Below.heap_setCell _ _ _ _ (by simp)).trans ((hb7.block n (by omega)).trans ((hb6.block n (Nat.lt_of_lt_of_eq (by omega) HS2.out.symm) (by omega)).trans HR2.out))
      · exact (Below.heap_setCell _ _ _ _ (by simp)).trans ((hb7.block (n + 1 + 1) (by omega)).trans hx6)
      · have h6 : Below w.heap.size w w6 := (HB2.out.drew).trans (hb6.below (by omega) (by show w.heap.size ≤ w2.heap.size; omega))
        exact (h6.trans (hb7.mono (by omega))).setCell (p := ⟨n + 1, 1, none⟩) (by show w.heap.size ≤ n + 1; omega) _
  case rest =>
    obtain ⟨g, cap, hown, hv3, hr3, hx3, hb3⟩ := hcut
    have HOW := Lib.hid hown
    have HV3 := Lib.hid hv3
    have HR3 := Lib.hid hr3
    have HB3 := Lib.hid hb3
    have x1 : wc.cell? ⟨n + 1 + 1, 1, none⟩ = some (.int .i64 4) := by rw [Lib.cell_of_heap hx3]; rfl
    have v0 : wc.cell? ⟨n + 1, 0, none⟩ = some (.bool false) := by rw [Lib.cell_of_heap hv3]; rfl
    have v2 : wc.cell? ⟨n + 1, 1, none⟩ = some (.slice (some ⟨g, 0, none⟩) 1 cap) := by rw [Lib.cell_of_heap hv3]; rfl
    have v3 : wc.cell? ⟨n + 1, 2, none⟩ = some (.int .i64 0) := by rw [Lib.cell_of_heap hv3]; rfl
    have v4 : wc.cell? ⟨n + 1, 3, none⟩ = some (.int .i64 0) := by rw [Lib.cell_of_heap hv3]; rfl
    have v5 : wc.cell? ⟨n + 1, 4, none⟩ = some (.string { data := #[] }) := by rw [Lib.cell_of_heap hv3]; rfl
    have htz : txt.size = 4 := rfl
    clear hown hv3 hr3 hx3 hb3 v1
    go_wp2_with fail
    rw [rounds_succ]
    go_wp2_with fail
    refine (must_any _).mono ?_
    rintro e w5 ⟨rfl, rfl⟩
    have HI := Lib.hid (show (Tryz.prog.info? 104).map (·.size) = some 5 by kernel_rfl)
    have HA := Lib.hid (show (#[.bool false, .slice (some ⟨g, 0, none⟩) 1 cap, .int .i64 0, .int .i64 0, .string { data := #[] }] : Array Value).all (·.oneCell') = true by simp [Value.oneCell'])
    go_wp2_with (refine wpList_store_row (by rfl) 104 (.tmp 4) (.tmp 86) (by rfl) n #[.bool false, .slice (some ⟨g, 0, none⟩) 1 cap, .int .i64 0, .int .i64 0, .string { data := #[] }] (by rfl) (by rfl) _ _ HR3.out HI.out (by rfl) HA.out ?_)
    exact bodyPost_ret (v := .agg #[.bool false, .slice (some ⟨g, 0, none⟩) 1 cap, .int .i64 0, .int .i64 0, .string { data := #[] }]) (results_cell_row (p := 4) (ty := 104) rfl _ _ n _ _ (0, 0) _ (by rfl) (setRow_heap _ _ _ _ _ _ HR3.out) Tryz.underlying104 rfl HI.out) rfl ⟨g, cap, rfl, owns_le (owns_setRow HOW.out (by omega) _) (by have := HN.out; omega), below_setRow HB3.out (by have := HN.out; omega) _⟩
end Go.Proofs.YtinknenfhohamaaGreatDoor

namespace Go.Proofs.YtinknenfhohamaaGreatDoor
open Go.RowKit Go.Shelf
set_option maxRecDepth 100000

theorem lower_ab : (⟨(Lib.toLowerA [65, 98]).toArray⟩ : ByteArray) = { data := #[97, 98] } := by decide +kernel
theorem lowerAb_any (w : World) : Calls Tryz.prog 144 #[.string { data := #[65, 98] }] w fun e w' => e = .returned (.string { data := #[97, 98] }) ∧ Below w.heap.size w w' := by
  have h := strings_ToLower_ascii { data := #[65, 98] } w (by decide) (by
    intro j b hj
    rcases j with _ | _ | j
    · simp at hj; subst hj; decide
    · simp at hj; subst hj; decide
    · simp at hj)
  refine h.mono ?_
  rintro e w' ⟨h1, h2⟩
  exact ⟨by rw [h1]; exact congrArg (fun x => Ending.returned (.string x)) lower_ab, h2⟩
theorem setC_at {b o : Nat} {v : Value} {w : World} {cs : Array Value} {T : TypeId} (h : w.heap[b]? = some (.cells cs T (0, 0))) : (w.setCell ⟨b, o, none⟩ v).heap[b]? = some (.cells (cs.set! o v) T (0, 0)) := set_at (n := 0) h
theorem But.set1 {b o : Nat} {v : Value} {w w' : World} (h : But b w w') : But b w (w'.setCell ⟨b, o, none⟩ v) :=
  ⟨h.os, h.tape, h.output, by simpa [World.setCell] using h.size, fun k hk hb => (Below.heap_setCell _ _ _ _ (by simpa using hb)).trans (h.block k hk hb)⟩
set_option maxHeartbeats 1000000 in
theorem fold_any (g : Nat) (cur : Array Value) (w : World) (hg : w.heap[g]? = some (.cells cur 147 (0, 0))) (h0 : cur[0]? = some (.string { data := #[65, 98] })) :
    Calls Tryz.prog 82 #[.pointer (some ⟨g, 0, none⟩), .int .i64 0] w fun e w' => e = .returned (.tuple #[]) ∧ w'.heap[g]? = some (.cells (cur.set! 0 (.string { data := #[97, 98] })) 147 (0, 0)) ∧ But g w w' := by
  have HL := Lib.hid lowerAb_any
  have HG := Lib.hid hg
  have H0 := Lib.hid h0
  have c0 : w.cell? ⟨g, 0, none⟩ = some (.string { data := #[65, 98] }) := by rw [Lib.cell_of_heap hg]; exact h0
  clear hg h0
  go_enter Tryz.func82, Tryz.ntmps82
  go_wp2_with fail
  refine (HL.out _).mono ?_
  rintro e w1 ⟨rfl, hb1⟩
  have hg1 := (hb1.block g (Array.getElem?_eq_some_iff.1 HG.out).1).trans HG.out
  have HG1 := Lib.hid hg1
  have HB1 := Lib.hid hb1
  have c1 : w1.cell? ⟨g, 0, none⟩ = some (.string { data := #[65, 98] }) := by rw [Lib.cell_of_heap hg1]; exact H0.out
  have f1 : w1.frozen? ⟨g, 0, none⟩ = false := Lib.frozen_of_heap hg1 0
  clear c0 hg1 hb1
  go_wp2_with fail
  go_end0
  exact ⟨rfl, setC_at HG1.out, (But.of_below HB1.out).set1⟩
set_option maxHeartbeats 1000000 in
theorem each1_any (vb fb g cap : Nat) (cur : Array Value) (w : World) (hv : w.heap[vb]? = some (.cells #[.bool false, .slice (some ⟨g, 0, none⟩) 1 cap, .int .i64 0, .int .i64 0, .string { data := #[] }] 104 (0, 0)))
    (hf : w.heap[fb]? = some (.cells #[.func (.func 82) #[] #[]] 150 (0, 0)))
    (hg : w.heap[g]? = some (.cells cur 147 (0, 0))) (h0 : cur[0]? = some (.string { data := #[65, 98] })) :
    Calls Tryz.prog 143 #[.pointer (some ⟨vb, 0, none⟩), .int .i64 0, .pointer (some ⟨fb, 0, none⟩)] w fun e w' => e = .returned (.tuple #[]) ∧ w'.heap[g]? = some (.cells (cur.set! 0 (.string { data := #[97, 98] })) 147 (0, 0)) ∧ But g w w' := by
  have c0 : w.cell? ⟨vb, 1, none⟩ = some (.slice (some ⟨g, 0, none⟩) 1 cap) := by rw [Lib.cell_of_heap hv]; rfl
  have c1 : w.cell? ⟨fb, 0, none⟩ = some (.func (.func 82) #[] #[]) := cell_of_one hf
  have HF := Lib.hid (fold_any g cur w.drew hg h0)
  clear hv hf hg h0
  go_enter Tryz.func143, Tryz.ntmps143
  go_wp2_with fail
  refine wp_loop_rounds 2 ?_
  rw [rounds_succ]
  go_wp2_with fail
  go_still_tail 8, (by kernel_rfl)
  change wpList _ _ _ _ _ w.drew
  go_wp2_with fail
  refine HF.out.mono ?_
  rintro e w1 ⟨rfl, hg1, hb1⟩
  have HH := Lib.hid (And.intro hg1 hb1)
  clear hg1 hb1 c0 c1
  go_wp2_with fail
  rw [rounds_succ]
  go_wp2_with fail
  go_end0
  exact ⟨rfl, HH.out.1, ⟨HH.out.2.os, HH.out.2.tape, HH.out.2.output, HH.out.2.size, HH.out.2.block⟩⟩
end Go.Proofs.YtinknenfhohamaaGreatDoor
