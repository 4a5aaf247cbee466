/- Package abstraction: write of the folded value. Package abstraction: Apply at the one step. -/
import Derived.Test.YtinknenfhohamaaGreatDoorG49
import Derived.Test.YtinknenfhohamaaGreatDoorG46
import Derived.Test.YtinknenfhohamaaGreatDoorG47
import Derived.Defers
import Derived.Recover
namespace Go.Proofs.YtinknenfhohamaaGreatDoor
open Go.RowKit Go.Shelf
set_option maxRecDepth 100000

/-- A variable of bytes in block p, that holds the text l; its row lies from B on. -/
def Buf (B p : Nat) (l : List UInt8) (W : World) : Prop := ∃ v, W.heap[p]? = some (.cells #[v] 62 (0, 0)) ∧ W.ownsRow B 5 1 v l.length (Lib.byteCells l) ∧ p < B
theorem Buf.below {B p : Nat} {l : List UInt8} {W W' : World} (h : Buf B p l W) (hb : Below W.heap.size W W') : Buf B p l W' := by
  obtain ⟨v, h1, h2, h3⟩ := h
  refine ⟨v, (hb.block p (Array.getElem?_eq_some_iff.1 h1).1).trans h1, ⟨h2.1, ?_⟩, h3⟩
  rcases h2.2 with h2 | ⟨g, cap, cur, a, b, c, d⟩
  · exact .inl h2
  · exact .inr ⟨g, cap, cur, a, b, (hb.block g (Array.getElem?_eq_some_iff.1 c).1).trans c, d⟩
theorem Buf.lt {B p : Nat} {l : List UInt8} {W : World} (h : Buf B p l W) : p < W.heap.size := by
  obtain ⟨v, h1, _⟩ := h
  exact (Array.getElem?_eq_some_iff.1 h1).1

theorem buf_step {B p : Nat} {l t : List UInt8} {w1 w2 : World} {v v' : Value} (h1 : w1.heap[p]? = some (.cells #[v] 62 (0, 0))) (hown : w1.ownsRow B 5 1 v l.length (Lib.byteCells l)) (hpB : p < B)
    (hown' : w2.ownsRow B 5 1 v' (l.length + t.length) (Lib.byteCells l ++ Lib.strCells ⟨t.toArray⟩)) (hgrow : w1.grownBy w2 v.ownBlock) :
    w2.heap[p]? = some (.cells #[v] 62 (0, 0)) ∧ Buf B p (l ++ t) (w2.setCell ⟨p, 0, none⟩ v') ∧ Kpt p p w1 (w2.setCell ⟨p, 0, none⟩ v') ∧ ∃ ao n cap, v' = .slice ao n cap := by
  have hlt : p < w1.heap.size := (Array.getElem?_eq_some_iff.1 h1).1
  have hp2 : w2.heap[p]? = some (.cells #[v] 62 (0, 0)) := (hgrow.block p hlt (fun e => by have := (hown.lt p e.symm).1; omega)).trans h1
  refine ⟨hp2, ⟨v', setC_at hp2, ?_, hpB⟩, ?_, ?_⟩
  · have he : Lib.byteCells (l ++ t) = Lib.byteCells l ++ Lib.strCells ⟨t.toArray⟩ := by rw [Lib.strCells_toArray]; simp [Lib.byteCells]
    rw [List.length_append, he]
    exact ownsRow_setCell_below hown' (a := ⟨p, 0, none⟩) hpB _
  · exact ⟨(((Below.refl p w1).grown hgrow (Nat.le_of_lt hlt) (fun k hk => by have := (hown.lt k hk).1; omega)).setCell (p := ⟨p, 0, none⟩) (Nat.le_refl _) _), ((Lib.OthersKept.refl _ _ w1).grown hgrow (Lib.ownsRowF_kind (World.ownsRowF_of hown))).setCell ⟨p, 0, none⟩ rfl _⟩
  · rcases hown'.2 with ⟨hv, _⟩ | ⟨g, cap, cur, hv, _⟩
    · exact ⟨_, _, _, hv⟩
    · exact ⟨_, _, _, hv⟩

set_option maxHeartbeats 1000000 in
theorem wnumbers_any (B p x : Nat) (l : List UInt8) (w : World) (h : Buf B p l w) (hx : w.heap[x]? = some (.cells #[.int .i64 1] 3 (0, 0))) (hlen : l.length ≤ 1000000) (hBw : B ≤ w.heap.size) :
    Calls Tryz.prog 90 #[.slice (some ⟨x, 0, none⟩) 1 1, .pointer (some ⟨p, 0, none⟩)] w fun e w' => e = .returned (.tuple #[]) ∧ Buf B p (l ++ enc 1) w' ∧ Kpt p p w w' := by
  obtain ⟨i0, hi, hz0, hz1, hz2⟩ := info_parts infoU8_e
  have hel := enc_len 1
  have c0 : w.cell? ⟨x, 0, none⟩ = some (.int .i64 1) := cell_of_one hx
  have HB := Lib.hid h
  clear h hx
  go_enter Tryz.func90, Tryz.ntmps90
  go_wp2_with fail
  refine wp_loop_rounds 2 ?_
  rw [rounds_succ]
  go_wp2_with fail
  refine (putInt_any 1 w (by decide) (by decide)).mono ?_
  rintro e w1 ⟨rfl, hb1⟩
  obtain ⟨v, h1, hown, hpB⟩ := HB.out.below hb1
  have hs1 := hb1.size
  have hpl := HB.out.lt
  have d0 : w1.cell? ⟨p, 0, none⟩ = some v := cell_of_one h1
  go_wp2_with (at_builtin; refine Lib.wpList_append_own_string _ rfl _ _ 62 9 rfl B 5 i0 u_bytes u_string hi hz0 hz1 hz2 _ _ _ rfl hown ⟨(enc 1).toArray⟩ rfl (by unfold maxLen; simp [ByteArray.size]; omega) (by simp [ByteArray.size]; omega) (by omega) ?_)
  intro v' w2 hown' hgrow _
  obtain ⟨hp2, hbuf, hbel, ao, n', cap, rfl⟩ := buf_step h1 hown hpB hown' hgrow
  have d2 : w2.cell? ⟨p, 0, none⟩ = some v := cell_of_one hp2
  have f2 : w2.frozen? ⟨p, 0, none⟩ = false := Lib.frozen_of_heap hp2 0
  have HF := Lib.hid (And.intro hbuf (((Kpt.of_below (b := p) hb1).mono (Nat.le_of_lt hpl)).trans hbel))
  clear hp2 hbuf hbel hown' hgrow hown h1 hpB hs1 hb1 hpl d0 hi hz0 hz1 hz2 c0
  go_wp2_with fail
  rw [rounds_succ]
  go_wp2_with fail
  go_end0
  exact ⟨rfl, HF.out.1, HF.out.2⟩

set_option maxHeartbeats 1000000 in
theorem wtext2_any (B p : Nat) (l : List UInt8) (w : World) (h : Buf B p l w) (hlen : l.length ≤ 1000000) (hBw : B ≤ w.heap.size) :
    Calls Tryz.prog 92 #[.string { data := #[97, 98] }, .pointer (some ⟨p, 0, none⟩)] w fun e w' => e = .returned (.tuple #[]) ∧ Buf B p (l ++ encS [97, 98]) w' ∧ Kpt p p w w' := by
  obtain ⟨i0, hi, hz0, hz1, hz2⟩ := info_parts infoU8_e
  have hel : (encS [97, 98]).length ≤ 20 := by decide
  have HB := Lib.hid h
  clear h
  go_enter Tryz.func92, Tryz.ntmps92
  go_wp2_with fail
  refine (putStr_any { data := #[97, 98] } w (by decide)).mono ?_
  rintro e w1 ⟨rfl, hb1⟩
  rw [putStrL]
  obtain ⟨v, h1, hown, hpB⟩ := HB.out.below hb1
  have hs1 := hb1.size
  have hpl := HB.out.lt
  have d0 : w1.cell? ⟨p, 0, none⟩ = some v := cell_of_one h1
  go_wp2_with (at_builtin; refine Lib.wpList_append_own_string _ rfl _ _ 62 9 rfl B 5 i0 u_bytes u_string hi hz0 hz1 hz2 _ _ _ rfl hown ⟨(encS [97, 98]).toArray⟩ rfl (by unfold maxLen; simp [ByteArray.size]; omega) (by simp [ByteArray.size]; omega) (by omega) ?_)
  intro v' w2 hown' hgrow _
  obtain ⟨hp2, hbuf, hbel, ao, n', cap, rfl⟩ := buf_step h1 hown hpB hown' hgrow
  have d2 : w2.cell? ⟨p, 0, none⟩ = some v := cell_of_one hp2
  have f2 : w2.frozen? ⟨p, 0, none⟩ = false := Lib.frozen_of_heap hp2 0
  have HF := Lib.hid (And.intro hbuf (((Kpt.of_below (b := p) hb1).mono (Nat.le_of_lt hpl)).trans hbel))
  clear hp2 hbuf hbel hown' hgrow hown h1 hpB hs1 hb1 hpl d0 hi hz0 hz1 hz2
  go_wp2_with fail
  go_end0
  exact ⟨rfl, HF.out.1, HF.out.2⟩

theorem wnumbers0_any (p : Nat) (w : World) : Calls Tryz.prog 90 #[.slice none 0 0, .pointer (some ⟨p, 0, none⟩)] w fun e w' => e = .returned (.tuple #[]) ∧ w = w' := by
  go_enter Tryz.func90, Tryz.ntmps90
  go_wp2_with fail
  refine wp_loop_rounds 1 ?_
  rw [rounds_succ]
  go_wp2_with fail
  go_end0
  exact ⟨rfl, rfl⟩
theorem enc_one : enc 1 = [2] := by decide +kernel
theorem encS_ab : encS [97, 98] = [4, 97, 98] := by decide +kernel
set_option maxHeartbeats 2000000 in
theorem write_any2 (g cap : Nat) (cur : Array Value) (w : World) (hg : w.heap[g]? = some (.cells cur 147 (0, 0))) (h0 : cur[0]? = some (.string { data := #[97, 98] })) (h1 : cur[1]? = some (.slice none 0 0)) :
    Calls Tryz.prog 38 #[.agg #[.bool false, .slice (some ⟨g, 0, none⟩) 1 cap, .int .i64 0, .int .i64 0, .string { data := #[] }], .int .i64 1] w fun e w' => e = .returned (.string ⟨#[2, 4, 97, 98]⟩) ∧ Below w.heap.size w w' := by
  obtain ⟨n, hn⟩ : ∃ n, w.heap.size = n := ⟨_, rfl⟩
  obtain ⟨w1, hw1⟩ : ∃ w1, ((w.alloc (.cells #[.bool false, .slice (some ⟨g, 0, none⟩) 1 cap, .int .i64 0, .int .i64 0, .string { data := #[] }] 104)).alloc (.cells #[.slice none 0 0] 62)).alloc (.cells #[.int .i64 1] 3) = w1 := ⟨_, rfl⟩
  have hb1 : Below w.heap.size w w1 := by rw [← hw1]; exact (((Below.refl _ _).alloc (Nat.le_refl _) _).alloc (by rw [size_alloc]; omega) _).alloc (by rw [size_alloc, size_alloc]; omega) _
  have hs1 : w1.heap.size = n + 1 + 1 + 1 := by rw [← hw1, size_alloc, size_alloc, size_alloc, hn]
  have hv1 : w1.heap[n]? = some (.cells #[.bool false, .slice (some ⟨g, 0, none⟩) 1 cap, .int .i64 0, .int .i64 0, .string { data := #[] }] 104 (0, 0)) := by rw [← hw1, ← hn]; exact allocs_heap [_, _, _] w 0 _ rfl
  have hp1 : w1.heap[n + 1]? = some (.cells #[.slice none 0 0] 62 (0, 0)) := by rw [← hw1, ← hn]; exact allocs_heap [_, _, _] w 1 _ rfl
  have hx1 : w1.heap[n + 1 + 1]? = some (.cells #[.int .i64 1] 3 (0, 0)) := by rw [← hw1, ← hn]; exact allocs_heap [_, _, _] w 2 _ rfl
  have hglt : g < w.heap.size := (Array.getElem?_eq_some_iff.1 hg).1
  have HB1 := Lib.hid hb1
  have HS1 := Lib.hid hs1
  have HN := Lib.hid hn
  have HV1 := Lib.hid hv1
  have HG1 := Lib.hid ((hb1.block g hglt).trans hg)
  have HGL := Lib.hid hglt
  have H0 := Lib.hid (And.intro h0 h1)
  have HNU := Lib.hid (wnumbers_any (n + 1 + 1) (n + 1) (n + 1 + 1) [] w1 ⟨_, hp1, World.ownsRow_nil _ _ _ _, by omega⟩ hx1 (by decide) (by omega))
  clear hb1 hs1 hv1 hp1 hx1 hg h0 h1 hglt
  go_enter Tryz.func38, Tryz.ntmps38
  go_wp2_with fail
  refine HNU.out.mono ?_
  rintro e w2 ⟨rfl, hf2, ⟨hb2, _⟩⟩
  have l1 := HN.out
  have l2 := HGL.out
  have HF2 := Lib.hid hf2
  have HB2 := Lib.hid (HB1.out.trans (hb2.mono (by omega)))
  have HV2 := Lib.hid ((hb2.block n (by omega)).trans HV1.out)
  have HG2 := Lib.hid ((hb2.block g (by omega)).trans HG1.out)
  have v1 : w2.cell? ⟨n, 1, none⟩ = some (.slice (some ⟨g, 0, none⟩) 1 cap) := by rw [Lib.cell_of_heap HV2.out]; rfl
  have g0 : w2.cell? ⟨g, 0, none⟩ = some (.string { data := #[97, 98] }) := by rw [Lib.cell_of_heap HG2.out]; exact H0.out.1
  have g1 : w2.cell? ⟨g, 1, none⟩ = some (.slice none 0 0) := by rw [Lib.cell_of_heap HG2.out]; exact H0.out.2
  have HS2 := Lib.hid (show n + 1 + 1 + 1 ≤ w2.heap.size by have := hb2.size; have := HS1.out; omega)
  clear hf2 hb2 l1 l2 hn hw1
  go_wp2_with fail
  refine wp_loop_rounds 2 ?_
  rw [rounds_succ]
  go_wp2_with fail
  obtain ⟨w3, hw3⟩ : ∃ w3, w2.alloc (.cells #[.string { data := #[97, 98] }, .slice none 0 0] 147) = w3 := ⟨_, rfl⟩
  rw [hw3]
  have hb3 : Below w2.heap.size w2 w3 := by rw [← hw3]; exact (Below.refl _ _).alloc (Nat.le_refl _) _
  have HB3 := Lib.hid (HB2.out.trans (hb3.mono HB2.out.size))
  have hs3 := hb3.size
  have hl3 : w3.heap[w2.heap.size]? = some (.cells #[.string { data := #[97, 98] }, .slice none 0 0] 147 (0, 0)) := by rw [← hw3]; exact heap_alloc_new _ _
  refine (wtext2_any (n + 1 + 1) (n + 1) ([] ++ enc 1) w3 (HF2.out.below hb3) (by rw [enc_one]; decide) (by have := HS2.out; omega)).mono ?_
  rintro e w4 ⟨rfl, hf4, hk4⟩
  have hb4 := hk4.1
  have hl4 := hk4.at_ hl3 (by have := HS2.out; omega) (by decide)
  have c4 : w4.cell? ⟨w2.heap.size, 1, none⟩ = some (.slice none 0 0) := by rw [Lib.cell_of_heap hl4]; rfl
  have HB4 := Lib.hid (HB3.out.trans (hb4.mono (by have := HN.out; omega)))
  obtain ⟨v, hp4, hown, _⟩ := hf4
  have hout : ([] ++ enc 1 ++ encS [97, 98] : List UInt8) = [2, 4, 97, 98] := by rw [enc_one, encS_ab]; rfl
  rw [hout] at hown
  have hcv := convert_owned (P := Tryz.prog) (src := 62) (dst := 9) u_bytes Tryz.underlying5 u_string hown
  have p4 : w4.cell? ⟨n + 1, 0, none⟩ = some v := cell_of_one hp4
  clear hp4 hown hb4 hb3 hs3 v1 g0 g1 hw3 hk4 hl4 hl3
  go_wp2_with fail
  refine (wnumbers0_any (n + 1) w4).mono ?_
  rintro e w5 ⟨rfl, rfl⟩
  go_wp2_with fail
  rw [rounds_succ]
  go_wp2_with fail
  go_ret
  exact ⟨rfl, HB4.out⟩
end Go.Proofs.YtinknenfhohamaaGreatDoor

namespace Go.Proofs.YtinknenfhohamaaGreatDoor
open Go.RowKit Go.Shelf
set_option maxRecDepth 100000

theorem caught_idle (p q : Addr) (w : World) :
    CallsD Tryz.prog 33 #[.pointer (some p), .pointer (some q)] .returning w fun e u' w' => e = .returned (.tuple #[]) ∧ u' = .returning ∧ w' = w := by
  have hnil : ∀ w : World, (binOp BinOp.eql 20 .nilIface .nilIface).run Tryz.prog w = .ok (.bool true) w := fun _ => by kernel_rfl
  refine callsD_of_wpS Tryz.func33 rfl fun c₀ cs hu => ?_
  apply wpS_seq
  apply wpS_region
  simp [wpOpsS, go_sem, recoverD, hu, Tryz.ntmps33, Exit.thenS]
  refine wpS_of_wp ?_
  simp only [Array.replicate_succ, Array.replicate_zero, List.push_toArray, List.append_toArray, List.nil_append, List.cons_append, List.setIfInBounds_toArray, List.set_cons_succ, List.set_cons_zero]
  go_wp2_with fail
  cases c₀
  simp_all [bodyPostS, results, Tryz.results33]

theorem set_same {cs : Array Value} {x : Value} (h : cs[0]? = some x) (v : Value) : (cs.set! 0 v)[0]? = some v := by
  have := (Array.getElem?_eq_some_iff.1 h).1
  simp [this]
theorem set_next (cs : Array Value) (v : Value) : (cs.set! 0 v)[1]? = cs[1]? := by simp
set_option maxHeartbeats 2000000 in
theorem apply_any (sg : Nat) (w : World) (hs : w.heap[sg]? = some (.cells #[.int .i64 1, .int .i64 0] 51 (0, 0))) :
    Calls Tryz.prog 12 #[.int .i64 1, .slice (some ⟨sg, 0, none⟩) 1 1, .string txt] w fun e w' => e = .returned (.tuple #[.string ⟨#[2, 4, 97, 98]⟩, .int .i64 0]) ∧ Below w.heap.size w w' := by
  obtain ⟨n, hn⟩ : ∃ n, w.heap.size = n := ⟨_, rfl⟩
  obtain ⟨w1, hw1⟩ : ∃ w1, (w.alloc (.cells #[.string { data := #[] }] 9)).alloc (.cells #[.int .i64 0] 29) = w1 := ⟨_, rfl⟩
  have hb1 : Below w.heap.size w w1 := by rw [← hw1]; exact ((Below.refl _ _).alloc (Nat.le_refl _) _).alloc (by rw [size_alloc]; omega) _
  have hs1 : w1.heap.size = n + 1 + 1 := by rw [← hw1, size_alloc, size_alloc, hn]
  have hr1 : w1.heap[n]? = some (.cells #[.string { data := #[] }] 9 (0, 0)) := by rw [← hw1, ← hn]; exact allocs_heap [_, _] w 0 _ rfl
  have he1 : w1.heap[n + 1]? = some (.cells #[.int .i64 0] 29 (0, 0)) := by rw [← hw1, ← hn]; exact allocs_heap [_, _] w 1 _ rfl
  have hslt : sg < w.heap.size := (Array.getElem?_eq_some_iff.1 hs).1
  have HB1 := Lib.hid hb1
  have HS1 := Lib.hid hs1
  have HN := Lib.hid hn
  have HSL := Lib.hid hslt
  have HR1 := Lib.hid hr1
  have HE1 := Lib.hid he1
  have HG1 := Lib.hid ((hb1.block sg hslt).trans hs)
  clear hb1 hs1 hr1 he1 hslt hs
  go_enter_defers Tryz.func12, Tryz.ntmps12
  go_wp2_with fail
  refine (validAp_any sg w1 HG1.out).mono ?_
  rintro e w2 ⟨rfl, hb2⟩
  have HB2 := Lib.hid hb2
  clear hb2
  go_wp2_with fail
  refine (must_any _).mono ?_
  rintro e w2' ⟨rfl, rfl⟩
  go_wp2_with fail
  refine (read_any w2).mono ?_
  rintro e w3 ⟨g, cap, rfl, hown, hb3⟩
  have HB3 := Lib.hid (HB2.out.trans (hb3.mono HB2.out.size))
  have HOW := Lib.hid hown
  clear hb3 hown hn hw1
  go_wp2_with fail
  -- the row of lines
  obtain ⟨cur, hgrow3, hgB, hcur0, hcur1⟩ : ∃ cur, w3.heap[g]? = some (.cells cur 147 (0, 0)) ∧ w2.heap.size ≤ g ∧ cur[0]? = some (.string { data := #[65, 98] }) ∧ cur[1]? = some (.slice none 0 0) := by
    rcases HOW.out.2 with ⟨h, _⟩ | ⟨g', cap', cur, h1, h2, h3, _, _, _, h7⟩
    · cases h
    · injection h1 with e1 _ e3
      injection e1 with e1
      injection e1 with e1 _ _
      subst e1
      have ht : ∀ j, j < 2 → cur[j]? = lineCs[j]? := by
        intro j hj
        have := congrArg (fun l => l[j]?) h7
        simp only [List.getElem?_take] at this
        rw [if_pos (by omega)] at this
        rw [← this]
        exact (Array.getElem?_toList ..).symm
      exact ⟨cur, h3, h2, ht 0 (by omega), ht 1 (by omega)⟩
  have HCU := Lib.hid (And.intro hcur0 hcur1)
  have HGB := Lib.hid hgB
  -- the value's variable
  obtain ⟨vb, hvb⟩ : ∃ vb, w3.heap.size = vb := ⟨_, rfl⟩
  obtain ⟨w4, hw4⟩ : ∃ w4, w3.alloc (.cells #[.bool false, .slice (some ⟨g, 0, none⟩) 1 cap, .int .i64 0, .int .i64 0, .string { data := #[] }] 104) = w4 := ⟨_, rfl⟩
  have hb4 : Below w3.heap.size w3 w4 := by rw [← hw4]; exact (Below.refl _ _).alloc (Nat.le_refl _) _
  have hv4 : w4.heap[vb]? = some (.cells #[.bool false, .slice (some ⟨g, 0, none⟩) 1 cap, .int .i64 0, .int .i64 0, .string { data := #[] }] 104 (0, 0)) := by rw [← hw4]; exact heap_last' _ _ hvb
  have HB4 := Lib.hid (HB3.out.trans (hb4.mono HB3.out.size))
  have HV4 := Lib.hid hv4
  have HG4 := Lib.hid ((hb4.block g (Array.getElem?_eq_some_iff.1 hgrow3).1).trans hgrow3)
  have HVB := Lib.hid (show g ≠ vb by have := (Array.getElem?_eq_some_iff.1 hgrow3).1; omega)
  have HVM := Lib.hid (show w1.heap.size ≤ vb by have := HB3.out.size; omega)
  clear hb4 hv4 hgrow3 hgB hcur0 hcur1
  rw [hw4, hvb]
  refine (kinds_any w4).mono ?_
  rintro e w5 ⟨q1, f1, q2, f2, q3, f3, q4, f4, q5, q6, rfl, hK, hb5⟩
  obtain ⟨ka, hka⟩ : ∃ ka, w5.heap.size = ka := ⟨_, rfl⟩
  obtain ⟨w6, hw6⟩ : ∃ w6, w5.alloc (.cells #[.slice none 0 0, .nilFunc, .nilFunc, .slice none 0 0, .nilFunc, .nilFunc, .slice none 0 0, .nilFunc, .nilFunc, .slice none 0 0, .nilFunc, .nilFunc, .slice none 0 0, .nilFunc, .nilFunc, .slice none 0 0, .nilFunc, .nilFunc, .slice none 0 0, .nilFunc, .nilFunc] 110) = w6 := ⟨_, rfl⟩
  obtain ⟨w7, hw7⟩ : ∃ w7, w6.setRow ka (kindsCs q1 f1 q2 f2 q3 f3 q4 f4 q5 q6) = w7 := ⟨_, rfl⟩
  have hb6 : Below w5.heap.size w5 w6 := by rw [← hw6]; exact (Below.refl _ _).alloc (Nat.le_refl _) _
  have hz6 : w6.heap[ka]? = some (.cells #[.slice none 0 0, .nilFunc, .nilFunc, .slice none 0 0, .nilFunc, .nilFunc, .slice none 0 0, .nilFunc, .nilFunc, .slice none 0 0, .nilFunc, .nilFunc, .slice none 0 0, .nilFunc, .nilFunc, .slice none 0 0, .nilFunc, .nilFunc, .slice none 0 0, .nilFunc, .nilFunc] 110 (0, 0)) := by rw [← hw6]; exact heap_last' _ _ hka
  have hb7 : Below w5.heap.size w5 w7 := by rw [← hw7]; exact below_setRow hb6 (by omega) _
  have hk7 : w7.heap[ka]? = some (.cells (kindsCs q1 f1 q2 f2 q3 f3 q4 f4 q5 q6) 110 (0, 0)) := by rw [← hw7]; exact setRow_heap _ _ _ _ _ _ hz6
  have hbb := hb5.trans (hb7.mono hb5.size)
  have HB7 := Lib.hid (HB4.out.trans (hbb.mono HB4.out.size))
  have hv7 := (hbb.block vb (Array.getElem?_eq_some_iff.1 HV4.out).1).trans HV4.out
  have hg7 := (hbb.block g (Array.getElem?_eq_some_iff.1 HG4.out).1).trans HG4.out
  have hf7 := (hK.below hb7).2
  have hsg7 := (HB7.out.block sg (Array.getElem?_eq_some_iff.1 HG1.out).1).trans HG1.out
  have HF7 := Lib.hid hf7
  have HV7 := Lib.hid hv7
  have HG7 := Lib.hid hg7
  have HZ6 := Lib.hid hz6
  have HI := Lib.hid infoKinds
  have HO := Lib.hid (show (#[.slice none 0 0, .nilFunc, .nilFunc, .slice none 0 0, .nilFunc, .nilFunc, .slice none 0 0, .nilFunc, .nilFunc, .slice none 0 0, .nilFunc, .nilFunc, .slice none 0 0, .nilFunc, .nilFunc, .slice none 0 0, .nilFunc, .nilFunc, .slice none 0 0, .nilFunc, .nilFunc] : Array Value).size = (kindsCs q1 f1 q2 f2 q3 f3 q4 f4 q5 q6).size from rfl)
  have HA := Lib.hid (show ((kindsCs q1 f1 q2 f2 q3 f3 q4 f4 q5 q6) : Array Value).all (·.oneCell') = true by simp [kindsCs, Value.oneCell'])
  have s0 : w7.cell? ⟨sg, 0, none⟩ = some (.int .i64 1) := by rw [Lib.cell_of_heap hsg7]; rfl
  have s1 : w7.cell? ⟨sg, 1, none⟩ = some (.int .i64 0) := by rw [Lib.cell_of_heap hsg7]; rfl
  have l1 : vb < w7.heap.size := (Array.getElem?_eq_some_iff.1 hv7).1
  have l2 : ka < w7.heap.size := (Array.getElem?_eq_some_iff.1 hk7).1
  have k2 : w7.cell? ⟨ka, 5, none⟩ = some (.func (.func 143) #[] #[.pointer (some ⟨f1, 0, none⟩)]) := by rw [Lib.cell_of_heap hk7]; rfl
  have v0 : w7.cell? ⟨vb, 0, none⟩ = some (.bool false) := by rw [Lib.cell_of_heap hv7]; rfl
  clear hb5 hb6 hz6 hb7 hk7 hbb hv7 hg7 hf7 hsg7 hK hw4 hvb
  go_wp2_with (refine wpList_store_row (by rfl) 110 (.tmp 9) (.tmp 19) (by rfl) ka (kindsCs q1 f1 q2 f2 q3 f3 q4 f4 q5 q6) (by rfl) (by rfl) _ _ HZ6.out HI.out HO.out HA.out ?_; rw [hw7])
  refine wp_loop_rounds 2 ?_
  rw [rounds_succ]
  have r1 := alloc_cell1 w7
  go_upto_region 9 with fail
  obtain ⟨w8, hw8⟩ : ∃ w8, w7.alloc (.cells #[.int .i64 1, .int .i64 0] 51) = w8 := ⟨_, rfl⟩
  obtain ⟨sb, hsb⟩ : ∃ sb, w7.heap.size = sb := ⟨_, rfl⟩
  rw [hw8, hsb]
  have hb8 : Below w7.heap.size w7 w8 := by rw [← hw8]; exact (Below.refl _ _).alloc (Nat.le_refl _) _
  have hs8 : w8.heap[sb]? = some (.cells #[.int .i64 1, .int .i64 0] 51 (0, 0)) := by rw [← hw8]; exact heap_last' _ _ hsb
  have t0 : w8.cell? ⟨sb, 0, none⟩ = some (.int .i64 1) := by rw [Lib.cell_of_heap hs8]; rfl
  have t1 : w8.cell? ⟨sb, 1, none⟩ = some (.int .i64 0) := by rw [Lib.cell_of_heap hs8]; rfl
  have k8 : w8.cell? ⟨ka, 5, none⟩ = some (.func (.func 143) #[] #[.pointer (some ⟨f1, 0, none⟩)]) := by rw [← hw8, r1 _ _ _ l2]; exact k2
  have HB8 := Lib.hid (HB7.out.trans (hb8.mono HB7.out.size))
  have HV8 := Lib.hid ((hb8.block vb (Array.getElem?_eq_some_iff.1 HV7.out).1).trans HV7.out)
  have HG8 := Lib.hid ((hb8.block g (Array.getElem?_eq_some_iff.1 HG7.out).1).trans HG7.out)
  have HF8 := Lib.hid ((hb8.block f1 (Array.getElem?_eq_some_iff.1 HF7.out).1).trans HF7.out)
  have HE8 := Lib.hid (each1_any vb f1 g cap cur w8.drew HV8.out HF8.out HG8.out HCU.out.1)
  clear r1 hw8 hsb hb8 hs8 k2 v0 l1 l2 s0 s1 hw7 hw6 hka
  go_still_tail 7, (by kernel_rfl)
  change wpList _ _ _ _ _ w8.drew
  go_wp2_with fail
  refine HE8.out.mono ?_
  rintro e w9 ⟨rfl, hg9, hb9⟩
  have HG9 := Lib.hid hg9
  have hv9 := (hb9.block vb (Array.getElem?_eq_some_iff.1 HV8.out).1 (fun h => HVB.out h.symm)).trans HV8.out
  have HB9 := Lib.hid ((HB8.out.drew).trans (hb9.below (B := w1.heap.size) (Nat.le_trans HB2.out.size HGB.out) HB8.out.size))
  have v0 : w9.cell? ⟨vb, 0, none⟩ = some (.bool false) := by rw [Lib.cell_of_heap hv9]; rfl
  have v1 : w9.cell? ⟨vb, 1, none⟩ = some (.slice (some ⟨g, 0, none⟩) 1 cap) := by rw [Lib.cell_of_heap hv9]; rfl
  have v2 : w9.cell? ⟨vb, 2, none⟩ = some (.int .i64 0) := by rw [Lib.cell_of_heap hv9]; rfl
  have v3 : w9.cell? ⟨vb, 3, none⟩ = some (.int .i64 0) := by rw [Lib.cell_of_heap hv9]; rfl
  have v4 : w9.cell? ⟨vb, 4, none⟩ = some (.string { data := #[] }) := by rw [Lib.cell_of_heap hv9]; rfl
  clear hg9 hb9 hv9 t0 t1 k8
  go_wp2_with fail
  rw [rounds_succ]
  go_wp2_with fail
  refine (write_any2 g cap (cur.set! 0 (.string { data := #[97, 98] })) w9 HG9.out (set_same HCU.out.1 _) ((set_next _ _).trans HCU.out.2)).mono ?_
  rintro e w10 ⟨rfl, hb10⟩
  have hbb := HB9.out.trans (hb10.mono HB9.out.size)
  have hlen : n < w1.heap.size ∧ n + 1 < w1.heap.size := by have := HS1.out; omega
  have hr := (hbb.block n hlen.1).trans HR1.out
  have he := (hbb.block (n + 1) hlen.2).trans HE1.out
  have p0 : w10.cell? ⟨n, 0, none⟩ = some (.string { data := #[] }) := cell_of_one hr
  have p1 : w10.cell? ⟨n + 1, 0, none⟩ = some (.int .i64 0) := cell_of_one he
  have q0 : w10.frozen? ⟨n, 0, none⟩ = false := Lib.frozen_of_heap hr 0
  have q1' : w10.frozen? ⟨n + 1, 0, none⟩ = false := Lib.frozen_of_heap he 0
  have HB10 := Lib.hid (HB1.out.trans (hbb.mono HB1.out.size))
  clear hbb hlen hb10 v0 v1 v2 v3 v4 hr he
  go_wp2_with fail
  refine leaves_cons (f := 33) (args := #[.pointer (some ⟨n, 0, none⟩), .pointer (some ⟨n + 1, 0, none⟩)]) (by simp) (by simp [go_sem]) ?_
  refine (caught_idle ⟨n, 0, none⟩ ⟨n + 1, 0, none⟩ _).mono ?_
  rintro e u' w'' ⟨rfl, rfl, rfl⟩
  simp [Leaves, settle, results, Tryz.results12, go_sem, p0, p1]
  exact (HB10.out.setCell (p := ⟨n, 0, none⟩) (Nat.le_of_eq HN.out) _).setCell (p := ⟨n + 1, 0, none⟩) (by have := HN.out; show w.heap.size ≤ n + 1; omega) _
end Go.Proofs.YtinknenfhohamaaGreatDoor
