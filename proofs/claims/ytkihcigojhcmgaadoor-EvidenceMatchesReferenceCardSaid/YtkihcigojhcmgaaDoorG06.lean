/- Package digest: the work on one block. Package digest: the bytes of the eight words. -/
import Derived.Test.YtkihcigojhcmgaaDoorG05
import Derived.Deep.MidRow
import Derived.Deep.WholeRow
namespace Go.Proofs.YtkihcigojhcmgaaDoor
open Go.RowKit
attribute [local go_sem ↓] Go.wp_at_zero Go.wp_at_succ

/-- The table of package digest. -/
def RoundAt (w : World) : Prop := ∀ i : Nat, i < 64 → w.cell? ⟨0, i, none⟩ = some (.int .u32 ((shaK.getD i 0 : Nat) : Int))
theorem RoundAt.words {w : World} (h : RoundAt w) : Words w 0 0 shaK := fun i hi => by rw [Nat.zero_add]; exact h i hi
theorem range_words {W : World} {b o : Nat} {L : List Nat} (h : Words W b o L) : W.rangeAt b o (ucs L) := fun j v hj => by
  rw [← Addr.add_mid]; exact words_news h j v hj
theorem run_index_words (L : List Nat) (i : Nat) (hi : i < 64) (hl : L.length = 64) (w : World) : (Instr.index 127 (.agg (ucs L).toArray) (.int .i64 (i : Int))).run Tryd.prog w = .ok (.int .u32 ((L.getD i 0 : Nat) : Int)) w := by
  have h1 := ucs_at L i (by omega)
  have h2 : (i : Int).toNat = i := Int.toNat_natCast i
  have h3 : ¬ ((i : Int) < 0) := by omega
  have h4 : ¬ (64 ≤ (i : Int)) := by omega
  simp [Instr.index, run_underlying Tryd.underlying127, asIntOf, go_sem, h1]
  intro h
  omega
theorem not_bits2 (x : Nat) (hx : x < 4294967296) : bits .xor .u32 IntKind.u32.max (x : Int) = ((4294967295 - x : Nat) : Int) := by
  have h := not_bits x hx
  rwa [if_neg (by decide)] at h
theorem tee_bits2 (x4 x5 x6 x7 k y : Nat) (h4 : x4 < 4294967296) (h5 : x5 < 4294967296) (h6 : x6 < 4294967296) :
    IntKind.u32.wrap (IntKind.u32.wrap (IntKind.u32.wrap (IntKind.u32.wrap ((x7 : Int) + ((big1 x4 : Nat) : Int)) +
      bits .xor .u32 (bits .and .u32 (x4 : Int) (x5 : Int)) (bits .and .u32 (bits .xor .u32 IntKind.u32.max (x4 : Int)) (x6 : Int))) + (k : Int)) + (y : Int)) = ((teeX x4 x5 x6 x7 k y : Nat) : Int) := by
  rw [not_bits2 x4 h4, u32_and_nat x4 x5 h4 h5, u32_and_nat _ x6 (by omega) h6, u32_xor_nat' _ _ (and_lt32 _ h4) (and_lt32 _ (by omega)), show (x4 &&& x5) ^^^ ((4294967295 - x4) &&& x6) = chf x4 x5 x6 from rfl, teeX]
  generalize big1 x4 = a
  generalize chf x4 x5 x6 = b
  simp only [IntKind.wrap_u32]
  omega
theorem you_bits2 (x0 x1 x2 : Nat) (h0 : x0 < 4294967296) (h1 : x1 < 4294967296) (h2 : x2 < 4294967296) :
    IntKind.u32.wrap (((big0 x0 : Nat) : Int) + bits .xor .u32 (bits .xor .u32 (bits .and .u32 (x0 : Int) (x1 : Int)) (bits .and .u32 (x0 : Int) (x2 : Int))) (bits .and .u32 (x1 : Int) (x2 : Int))) = ((youX x0 x1 x2 : Nat) : Int) := by
  rw [maj_bits x0 x1 x2 h0 h1 h2, youX]
  generalize big0 x0 = a
  generalize maj x0 x1 x2 = b
  simp only [IntKind.wrap_u32]
  omega
theorem sizeOf83 : (Tryd.prog.info? 83).map (·.size) = some 1 := by kernel_rfl
theorem wpList_index_run {P : Program} {ops : Array Oper} {rest : List Oper} {o : Oper} {a : Act} {w : World} {Q : Exit → Act → World → Prop} (hgd : o.guard = none) (t : TypeId) (x i : Operand) (ho : o.op = .index t x i) (xv iv rv : Value)
    (hx : a.eval x = xv) (hi : a.eval i = iv) (hr : ∀ w, (Instr.index t xv iv).run P w = .ok rv w) (h : wpList P ops Q rest (a.put o.dst rv) w) : wpList P ops Q (o :: rest) a w :=
  wpList_plain hgd fun _ hK => by
    unfold Oper.wp execOp
    simp only [ho, hx, hi, Sem.run_bind, Sem.run_pure, Result.andThen_ok, hr]
    exact hK _ _ h
theorem sizeOf111 : (Tryd.prog.info? 111).map (·.size) = some 8 := by kernel_rfl

set_option maxRecDepth 100000 in
set_option maxHeartbeats 1000000 in
theorem add_any (H : List Nat) (B : List UInt8) (base hb bb bo bc : Nat) (w : World) (hH : H.length = 8) (hB : B.length = 64) (hHl : ∀ i, H.getD i 0 < 4294967296) (hrow0 : w.ownsRow base 111 1 (.slice (some ⟨hb, 0, none⟩) 8 8) 8 (ucs H))
    (hbb : Octets w bb bo B) (hbl : bb < w.heap.size) (hR : RoundAt w) (hgl : 0 < w.heap.size) :
    Calls Tryd.prog 64 #[.pointer (some ⟨hb, 0, none⟩), .slice (some ⟨bb, bo, none⟩) 64 bc] w fun e w' => (∃ v, e = .returned v) ∧ w'.ownsRow base 111 1 (.slice (some ⟨hb, 0, none⟩) 8 8) 8 (ucs (block H B)) ∧ w.grownBy w' (some hb) := by
  have hhl := (hrow0.lt hb rfl).2
  have HR := Lib.hid hR
  have HROW0 := Lib.hid hrow0
  clear hR hrow0
  go_enter Tryd.func64, Tryd.ntmps64
  go_wp2_with fail
  refine (schedule_any B bb bo bc _ hB hbb hbl).mono ?_
  rintro e w1 ⟨rfl, hb1⟩
  obtain ⟨W, hW⟩ : ∃ W, sched B = W := ⟨_, rfl⟩
  rw [hW]
  have hWl : W.length = 64 := by rw [← hW]; simp [sched, extW_length]
  have hWt : ∀ i, W.getD i 0 < 4294967296 := by rw [← hW]; exact extW_lt 48 _ (word0_lt B 16)
  have hs1 := hb1.size
  obtain ⟨CW, hCW⟩ : ∃ CW, (ucs W).toArray = CW := ⟨_, rfl⟩
  rw [hCW]
  have hcs : CW.size = 64 := by rw [← hCW]; simp [ucs, hWl]
  have hi := sizeOf127
  rw [← hcs] at hi
  have h1 : CW.all (·.oneCell') = true := by rw [← hCW]; simp [ucs, Value.oneCell']
  have hW' := hW.symm
  have HW := Lib.hid hW'
  have HWL := Lib.hid hWl
  have HWT := Lib.hid hWt
  have HCW := Lib.hid hCW
  have HI := Lib.hid hi
  have H1 := Lib.hid h1
  have HS := Lib.hid hcs
  clear hW' hW hWl hWt hCW hi h1 hcs
  obtain ⟨h0, h1, h2, h3, h4, h5, h6, h7, rfl⟩ : ∃ h0 h1 h2 h3 h4 h5 h6 h7, H = [h0, h1, h2, h3, h4, h5, h6, h7] := by
    match H, hH with
    | [h0, h1, h2, h3, h4, h5, h6, h7], _ => exact ⟨h0, h1, h2, h3, h4, h5, h6, h7, rfl⟩
  have hhb1 : w1.heap[hb]? = some (.cells #[.int .u32 (h0 : Int), .int .u32 (h1 : Int), .int .u32 (h2 : Int), .int .u32 (h3 : Int), .int .u32 (h4 : Int), .int .u32 (h5 : Int), .int .u32 (h6 : Int), .int .u32 (h7 : Int)] 111 (0, 0)) := by
    rw [hb1.block hb hhl]; exact ownsRow_whole HROW0.out
  have hgl1 : 0 < w1.heap.size := by omega
  have hrt : w1.rangeAt 0 0 (ucs shaK) := range_words (HR.out.words.below hb1 hgl)
  have hsk : (Tryd.prog.info? 127).map (·.size) = some (ucs shaK).length := sizeOf127
  obtain ⟨CK, hCK⟩ : ∃ CK, CK = ucs shaK := ⟨_, rfl⟩
  rw [← hCK] at hrt hsk
  have HSK := Lib.hid hsk
  have HRT := Lib.hid hrt
  have HCK := Lib.hid hCK
  clear hCK hsk hrt
  simp only []
  rename_i hK
  refine (by assumption : ∀ (a : Act) (w : World), wpList _ _ _ _ a w → _) _ _ ?_
  go_step
  go_step
  refine (by assumption : ∀ (a : Act) (w : World), wpList _ _ _ _ a w → _) _ _ ?_
  refine wpList_store_row (by rfl) 127 (.tmp 4) (.tmp 14) (by rfl) w1.heap.size CW (by rfl) (by rfl) 127 _ (heap_alloc_new w1 _) HI.out (by exact HS.out.symm) H1.out ?_
  rw [World.setRow_alloc_new]
  obtain ⟨w2, hw2⟩ : ∃ w2, w1.alloc (.cells CW 127) = w2 := ⟨_, rfl⟩
  have hwb : w2.heap[w1.heap.size]? = some (.cells CW 127 (0, 0)) := by rw [← hw2]; exact heap_alloc_new w1 _
  have hb2 : Below w1.heap.size w1 w2 := by rw [← hw2]; exact (Below.refl _ _).alloc (Nat.le_refl _) _
  have hhl1 : hb < w1.heap.size := by omega
  have hhb2 := (hb2.block hb hhl1).trans hhb1
  have hrt2 : w2.rangeAt 0 0 CK := fun j v hj => (hb2.cell (p := ⟨_, _, none⟩) hgl1).trans (HRT.out j v hj)
  have hz2 : w2.heap.size = w1.heap.size + 1 := by rw [← hw2]; simp
  rw [hw2]
  clear hw2 hhb1
  obtain ⟨gw, hgw⟩ : ∃ gw, w1.heap.size = gw := ⟨_, rfl⟩
  rw [hgw] at hwb hz2 ⊢
  have HGW := Lib.hid hgw
  have HZ2 := Lib.hid hz2
  clear hgw hz2
  have HH2 := Lib.hid hhb2
  clear hhb2
  obtain ⟨w3, hw3⟩ : ∃ w3, w2.alloc (.cells #[.int .u32 (h0 : Int), .int .u32 (h1 : Int), .int .u32 (h2 : Int), .int .u32 (h3 : Int), .int .u32 (h4 : Int), .int .u32 (h5 : Int), .int .u32 (h6 : Int), .int .u32 (h7 : Int)] 111) = w3 := ⟨_, rfl⟩
  have hv3 : w3.ownsRow w2.heap.size 111 1 (.slice (some ⟨w2.heap.size, 0, none⟩) 8 8) 8 (ucs [h0, h1, h2, h3, h4, h5, h6, h7]) := by
    rw [← hw3]
    exact ownsRow_of_block (heap_alloc_new w2 _) (Nat.le_refl _) rfl (by unfold maxLen; omega)
  have hb3 : Below w2.heap.size w2 w3 := by rw [← hw3]; exact (Below.refl _ _).alloc (Nat.le_refl _) _
  have hgl2 : 0 < w2.heap.size := Nat.lt_of_lt_of_le hgl1 hb2.size
  have hrt3 : w3.rangeAt 0 0 CK := fun j v hj => (hb3.cell (p := ⟨_, _, none⟩) hgl2).trans (hrt2 j v hj)
  have HRT3 := Lib.hid hrt3
  have HV3 := Lib.hid hv3
  have HW3 := Lib.hid hw3
  clear hw3 hv3 hrt3 hrt2
  go_upto_region 2 with (refine wpList_load_row (by rfl) 111 (.tmp 16) (by rfl) hb (by rfl) _ _ (0, 0) _ HH2.out Tryd.underlying111 rfl sizeOf111 ?_)
  rw [HW3.out]
  have hz3 : w2.heap.size < w3.heap.size := (HV3.out.lt _ rfl).2
  have hgw2 : gw < w2.heap.size := by rw [HZ2.out]; omega
  have hwW : Words w3 gw 0 W := by
    have h : Words w2 gw 0 W := by
      intro i hi
      rw [Nat.zero_add, World.cell?, hwb]
      have h1 := ucs_at W i hi
      rw [← HCW.out]
      simp [h1]
    exact h.below hb3 hgw2
  have HWW := Lib.hid hwW
  clear hwW hwb
  obtain ⟨gv, hgv⟩ : ∃ gv, w2.heap.size = gv := ⟨_, rfl⟩
  rw [hgv] at HV3 hz3 hgw2 hb3 ⊢
  have HGV := Lib.hid hgv
  clear hgv
  generalize hHH : [h0, h1, h2, h3, h4, h5, h6, h7] = HH at *
  have hHH' := hHH.symm
  have HHE := Lib.hid hHH'
  clear hHH hHH'
  go_wp2_with (refine wpList_load_mid (by rfl) 127 (.global 0) (by rfl) 0 0 (by rfl) CK _ HRT3.out Tryd.underlying127 rfl HSK.out ?_)
  obtain ⟨CKA, hCKA⟩ : ∃ CKA, Value.agg CK.toArray = CKA := ⟨_, rfl⟩
  rw [hCKA]
  have HCKA := Lib.hid hCKA
  clear hCKA
  generalize Value.agg CW = dead1
  generalize Value.agg #[Value.int IntKind.u32 (h0 : Int), Value.int IntKind.u32 (h1 : Int), Value.int IntKind.u32 (h2 : Int), Value.int IntKind.u32 (h3 : Int), Value.int IntKind.u32 (h4 : Int), Value.int IntKind.u32 (h5 : Int), Value.int IntKind.u32 (h6 : Int), Value.int IntKind.u32 (h7 : Int)] = dead2
  clear hK
  go_loopw [19] (fun i wx => ∃ n : Nat, n ≤ 64 ∧ i = .int .i64 n ∧ wx.ownsRow gv 111 1 (.slice (some ⟨gv, 0, none⟩) 8 8) 8 (ucs (rounds W HH n)) ∧ Below gv w3 wx) (fun i _ => 64 - (intOf i).toNat)
  case atStart => exact ⟨0, by omega, rfl, HV3.out, Below.refl _ _⟩
  case round =>
    obtain ⟨n, hn, rfl, hrow, hbx⟩ := hrel
    have hVt := rounds_lt HWT.out hHl n
    have hgv3 : gv < wr.heap.size := (hrow.lt _ rfl).2
    by_cases hlt : n < 64
    · obtain ⟨V, hV⟩ : ∃ V, rounds W HH n = V := ⟨_, rfl⟩
      rw [hV] at hrow hVt
      have hVl : V.length = 8 := by rw [← hV]; exact rounds_length hH n
      have hst : rounds W HH (n + 1) = step V (shaK.getD n 0) (W.getD n 0) := by rw [← hV]; rfl
      have cW : wr.cell? ⟨gw, n, none⟩ = some (.int .u32 ((W.getD n 0 : Nat) : Int)) := by
        have h := HWW.out n (by rw [HWL.out]; exact hlt)
        rw [Nat.zero_add] at h
        exact (hbx.cell (p := ⟨gw, n, none⟩) hgw2).trans h
      have hidx : ∀ w, (Instr.index 127 CKA (.int .i64 (n : Int))).run Tryd.prog w = .ok (.int .u32 ((shaK.getD n 0 : Nat) : Int)) w := by
        rw [← HCKA.out, HCK.out]; exact run_index_words shaK n hlt rfl
      obtain ⟨k, hk⟩ : ∃ k, shaK.getD n 0 = k := ⟨_, rfl⟩
      obtain ⟨y, hy⟩ : ∃ y, W.getD n 0 = y := ⟨_, rfl⟩
      rw [hk] at hidx hst
      rw [hy] at cW hst
      have hkt : k < 4294967296 := by rw [← hk]; exact shaK_lt n
      have hyt : y < 4294967296 := by rw [← hy]; exact HWT.out n
      rw [step_eq] at hst
      have HST := Lib.hid hst
      clear hk hy hst hV
      obtain ⟨x0, x1, x2, x3, x4, x5, x6, x7, rfl⟩ : ∃ x0 x1 x2 x3 x4 x5 x6 x7, V = [x0, x1, x2, x3, x4, x5, x6, x7] := by
        match V, hVl with
        | [x0, x1, x2, x3, x4, x5, x6, x7], _ => exact ⟨x0, x1, x2, x3, x4, x5, x6, x7, rfl⟩
      have hwv := words_ownE hrow rfl
      have v0 : wr.cell? ⟨gv, 0, none⟩ = some (.int .u32 (x0 : Int)) := hwv 0 (by simp)
      have v1 : wr.cell? ⟨gv, 1, none⟩ = some (.int .u32 (x1 : Int)) := hwv 1 (by simp)
      have v2 : wr.cell? ⟨gv, 2, none⟩ = some (.int .u32 (x2 : Int)) := hwv 2 (by simp)
      have v3 : wr.cell? ⟨gv, 3, none⟩ = some (.int .u32 (x3 : Int)) := hwv 3 (by simp)
      have v4 : wr.cell? ⟨gv, 4, none⟩ = some (.int .u32 (x4 : Int)) := hwv 4 (by simp)
      have v5 : wr.cell? ⟨gv, 5, none⟩ = some (.int .u32 (x5 : Int)) := hwv 5 (by simp)
      have v6 : wr.cell? ⟨gv, 6, none⟩ = some (.int .u32 (x6 : Int)) := hwv 6 (by simp)
      have v7 : wr.cell? ⟨gv, 7, none⟩ = some (.int .u32 (x7 : Int)) := hwv 7 (by simp)
      have t0 : x0 < 4294967296 := hVt 0
      have t1 : x1 < 4294967296 := hVt 1
      have t2 : x2 < 4294967296 := hVt 2
      have t3 : x3 < 4294967296 := hVt 3
      have t4 : x4 < 4294967296 := hVt 4
      have t5 : x5 < 4294967296 := hVt 5
      have t6 : x6 < 4294967296 := hVt 6
      have t7 : x7 < 4294967296 := hVt 7
      have hdec : decide ((n : Int) < 64) = true := by rw [decide_eq_true_iff]; omega
      have HROW := Lib.hid hrow
      have HIDX := Lib.hid hidx
      clear hVt hwv hVl hrow hidx
      go_upto_region 5 with (refine wpList_index_run (by rfl) 127 (.tmp 18) (.tmp 19) (by rfl) _ _ _ (by rfl) (by rfl) HIDX.out ?_)
      go_quiet (fail)
      obtain ⟨wd, hwd⟩ : ∃ wd, wr.drewN nq = wd := ⟨_, rfl⟩
      have a1 : wd.cell? ⟨gv, 1, none⟩ = some (.int .u32 (x1 : Int)) := by rw [← hwd]; simpa using v1
      have a2 : wd.cell? ⟨gv, 2, none⟩ = some (.int .u32 (x2 : Int)) := by rw [← hwd]; simpa using v2
      have a5 : wd.cell? ⟨gv, 5, none⟩ = some (.int .u32 (x5 : Int)) := by rw [← hwd]; simpa using v5
      have a6 : wd.cell? ⟨gv, 6, none⟩ = some (.int .u32 (x6 : Int)) := by rw [← hwd]; simpa using v6
      have a7 : wd.cell? ⟨gv, 7, none⟩ = some (.int .u32 (x7 : Int)) := by rw [← hwd]; simpa using v7
      have aW : wd.cell? ⟨gw, n, none⟩ = some (.int .u32 (y : Int)) := by rw [← hwd]; simpa using cW
      have hbd : Below gv w3 wd := by rw [← hwd]; exact below_drewN hbx nq
      have hrd : wd.ownsRow gv 111 1 (.slice (some ⟨gv, 0, none⟩) 8 8) 8 (ucs [x0, x1, x2, x3, x4, x5, x6, x7]) := by rw [← hwd]; exact HROW.out
      have hgvd : gv < wd.heap.size := by rw [← hwd]; simpa using hgv3
      rw [hwd]
      have HRD := Lib.hid hrd
      have n0 : (0 : Int) ≤ (n : Int) := by omega
      have n1 : (n : Int) < 64 := by omega
      clear hwd v0 v1 v2 v3 v4 v5 v6 v7 cW hbx hgv3 HROW hrd
      go_upto_region 6 with fail
      go_region_held3 (fun w' => w'.cell? ⟨gv, 5, none⟩ = some (.int .u32 (x5 : Int)) ∧ w'.cell? ⟨gv, 6, none⟩ = some (.int .u32 (x6 : Int)) ∧ w'.cell? ⟨gv, 7, none⟩ = some (.int .u32 (x7 : Int)) ∧ w'.cell? ⟨gw, n, none⟩ = some (.int .u32 (y : Int)))
        (go_keep)
        ((go_at_call 76; go_must (refine (mixed3 x4 6 11 25 _ _ _ (by assumption) (by omega) (by omega) (by omega) (by simp) (by simp) (by simp)).mono ?_); rintro e w' ⟨rfl, rfl⟩))
      rw [show ((rotr x4 6 ^^^ rotr x4 11) ^^^ rotr x4 25 : Nat) = big1 x4 from rfl]
      rw [tee_bits2 x4 x5 x6 x7 k y t4 t5 t6]
      have htt := teeX_lt x4 x5 x6 x7 k y
      obtain ⟨we, hwe⟩ : ∃ we, (wd.alloc (.cells #[.int .i64 6, .int .i64 11, .int .i64 25] 3)).drew = we := ⟨_, rfl⟩
      have b1 : we.cell? ⟨gv, 1, none⟩ = some (.int .u32 (x1 : Int)) := by rw [← hwe]; exact (World.cell?_alloc_lt _ _ _ hgvd).trans a1
      have b2 : we.cell? ⟨gv, 2, none⟩ = some (.int .u32 (x2 : Int)) := by rw [← hwe]; exact (World.cell?_alloc_lt _ _ _ hgvd).trans a2
      have hbe : Below gv w3 we := by rw [← hwe]; exact (hbd.alloc (Nat.le_of_lt hgvd) _).drew
      have hre : we.ownsRow gv 111 1 (.slice (some ⟨gv, 0, none⟩) 8 8) 8 (ucs [x0, x1, x2, x3, x4, x5, x6, x7]) := by rw [← hwe]; exact (HRD.out.alloc _).drew
      have hgve : gv < we.heap.size := (hre.lt _ rfl).2
      rw [hwe]
      have HRE := Lib.hid hre
      clear hwe a1 a2 a5 a6 a7 aW hbd HRD hgvd hre
      generalize htx : teeX x4 x5 x6 x7 k y = t at *
      have HTX := Lib.hid htx
      clear htx
      go_upto_region 7 with fail
      go_region_held3 (fun w' => w'.cell? ⟨gv, 1, none⟩ = some (.int .u32 (x1 : Int)) ∧ w'.cell? ⟨gv, 2, none⟩ = some (.int .u32 (x2 : Int)))
        (go_keep)
        ((go_at_call 76; go_must (refine (mixed3 x0 2 13 22 _ _ _ (by assumption) (by omega) (by omega) (by omega) (by simp) (by simp) (by simp)).mono ?_); rintro e w' ⟨rfl, rfl⟩))
      rw [show ((rotr x0 2 ^^^ rotr x0 13) ^^^ rotr x0 22 : Nat) = big0 x0 from rfl]
      rw [you_bits2 x0 x1 x2 t0 t1 t2]
      have hyy := youX_lt x0 x1 x2
      obtain ⟨wf, hwf⟩ : ∃ wf, (we.alloc (.cells #[.int .i64 2, .int .i64 13, .int .i64 22] 3)).drew = wf := ⟨_, rfl⟩
      have hbf : Below gv w3 wf := by rw [← hwf]; exact (hbe.alloc (Nat.le_of_lt hgve) _).drew
      have hrf : wf.ownsRow gv 111 1 (.slice (some ⟨gv, 0, none⟩) 8 8) 8 (ucs [x0, x1, x2, x3, x4, x5, x6, x7]) := by rw [← hwf]; exact (HRE.out.alloc _).drew
      have hhf := ownsRow_whole hrf
      have hwfw := words_ownE hrf rfl
      have hnews : ∀ j v, (ucs [x0, x1, x2, x3, x4, x5, x6])[j]? = some v → wf.cell? (Addr.add ⟨gv, 0, none⟩ j) = some v := by
        have h7 : Words wf gv 0 [x0, x1, x2, x3, x4, x5, x6] := by
          intro i hi
          have h := hwfw i (by simp at hi ⊢; omega)
          rw [h]
          match i, hi with
          | 0, _ => rfl
          | 1, _ => rfl
          | 2, _ => rfl
          | 3, _ => rfl
          | 4, _ => rfl
          | 5, _ => rfl
          | 6, _ => rfl
        exact words_news h7
      rw [hwf]
      have HHF := Lib.hid hhf
      have HNEWS := Lib.hid hnews
      clear hwf b1 b2 hbe HRE hgve hrf hhf hwfw hnews
      generalize hux : youX x0 x1 x2 = u at *
      have HUX := Lib.hid hux
      clear hux
      go_upto_region 8 with fail
      go_region_law
        ((refine step_copy_splice (by rfl) (.tmp 69) (.tmp 70) 84 84 (by rfl) 83 Tryd.underlying84 sizeOf83 (some ⟨gv, 1, none⟩) (some ⟨gv, 0, none⟩) 7 7 7 8 (by rfl) (by rfl) gv 1 (ucs [x0, x1, x2, x3, x4, x5, x6, x7]) 111 HHF.out (ucs [x0, x1, x2, x3, x4, x5, x6]) (by rfl) (fun _ => ⟨rfl, _, rfl, HNEWS.out⟩) (by simp [ucs]) (by simp [ucs, Value.oneCell']) gv w3 (by exact hbf.drew) (Nat.le_refl _) ?_; intro w4 hg4 hb4))
      all_goals
        have hr4 : w4.ownsRow gv 111 1 (.slice (some ⟨gv, 0, none⟩) 8 8) 8 (ucs [x0, x0, x1, x2, x3, x4, x5, x6]) :=
          ownsRow_of_block hg4.out (Nat.le_refl _) rfl (by unfold maxLen; omega)
        have hw4 := words_ownE hr4 rfl
        have c0 : w4.cell? ⟨gv, 0, none⟩ = some (.int .u32 (x0 : Int)) := hw4 0 (by simp)
        have c4 : w4.cell? ⟨gv, 4, none⟩ = some (.int .u32 (x3 : Int)) := hw4 4 (by simp)
        have f0 := hr4.frozenAt 0
        have f4 := hr4.frozenAt 4
        have HR4 := Lib.hid hr4
        have hst : rounds W HH (n + 1) = [(t + u) % 4294967296, x0, x1, x2, (x3 + t) % 4294967296, x4, x5, x6] := by
          rw [HST.out, ← HTX.out, ← HUX.out]; rfl
        have HS2 := Lib.hid hst
        clear hr4 hw4 hg4 hst HST HHF HNEWS
        go_wp2_with fail
        refine ⟨⟨n + 1, by omega, by push_cast; rfl, ?_, (hb4.setCell (p := ⟨gv, 0, none⟩) (Nat.le_refl _) _).setCell (p := ⟨gv, 4, none⟩) (Nat.le_refl _) _⟩, by simp [intOf]; omega⟩
        rw [HS2.out]
        exact row_store (row_store HR4.out 0 ((t + u) % 4294967296) (by omega)) 4 ((x3 + t) % 4294967296) (by omega)
    · obtain rfl : n = 64 := by omega
      obtain ⟨wo, rfl⟩ : ∃ wo : World, wo = wr := ⟨_, rfl⟩
      rw [show ((64 : Nat) : Int) = 64 from rfl]
      obtain ⟨V, hV⟩ : ∃ V, V = rounds W HH 64 := ⟨_, rfl⟩
      rw [← hV] at hrow hVt
      have hVl : V.length = 8 := by rw [hV]; exact rounds_length hH 64
      have hbA : Below w.heap.size w wo := ((hb1.trans (hb2.mono hs1)).trans (hb3.mono (by have := hb2.size; have := HGV.out; omega))).trans (hbx.mono (by have := hb2.size; have := HGV.out; omega))
      have hfin : block HH B = (List.range 8).map fun i => (HH.getD i 0 + V.getD i 0) % 4294967296 := by rw [hV, HW.out]; rfl
      have hhbo : wo.ownsRow base 111 1 (.slice (some ⟨hb, 0, none⟩) 8 8) 8 (ucs HH) := by
        have h := ownsRow_whole HROW0.out
        rw [← hbA.block hb hhl] at h
        exact ownsRow_of_block h (HROW0.out.lt hb rfl).1 (by simp [hH]) (by unfold maxLen; omega)
      have hwv := words_ownE hrow hVl
      have hgvo : gv < wo.heap.size := (hrow.lt _ rfl).2
      have hne : hb ≠ gv := by have := hb2.size; have := HGV.out; omega
      have HF := Lib.hid hfin
      have HHB := Lib.hid hhbo
      have HWV := Lib.hid hwv
      have HV8 := Lib.hid hVl
      have HH8 := Lib.hid hH
      have hA : w.grownBy wo (some hb) := ⟨hbA.os, hbA.tape, hbA.output, hbA.size, fun k hk _ => hbA.block k hk⟩
      have HA := Lib.hid hA
      have hhbl : hb < wo.heap.size := (hhbo.lt hb rfl).2
      clear hV hfin hhbo hwv hVl hVt hrow hA hbA hH HROW0 HV3 HWW
      have hne2 : gv ≠ hb := hne.symm
      have hmet : ∀ j, j < 8 → ((List.range j).map (fun i => (HH.getD i 0 + V.getD i 0) % 4294967296) ++ HH.drop j).getD j 0 = HH.getD j 0 ∧ ((List.range j).map (fun i => (HH.getD i 0 + V.getD i 0) % 4294967296) ++ HH.drop j).length = 8 ∧ ((List.range j).map (fun i => (HH.getD i 0 + V.getD i 0) % 4294967296) ++ HH.drop j).set j ((HH.getD j 0 + V.getD j 0) % 4294967296) = (List.range (j + 1)).map (fun i => (HH.getD i 0 + V.getD i 0) % 4294967296) ++ HH.drop (j + 1) := by
        intro j hj
        have h8 := HH8.out
        refine ⟨?_, by simp; omega, ?_⟩
        · rw [List.getD_eq_getElem?_getD, List.getElem?_append_right (by simp), List.getElem?_drop, List.getD_eq_getElem?_getD]; simp
        · rw [List.set_append_right _ _ (by simp), List.length_map, List.length_range, Nat.sub_self, List.drop_eq_getElem_cons (by omega), List.set_cons_zero, List.range_succ, List.map_append, List.append_assoc]; rfl
      have HMET := Lib.hid hmet
      clear hmet
      go_wp2_with fail
      go_loopw [12, 82] (fun _ i wx => ∃ j : Nat, j ≤ 8 ∧ i = .int .i64 j ∧ wx.ownsRow base 111 1 (.slice (some ⟨hb, 0, none⟩) 8 8) 8 (ucs ((List.range j).map (fun i => (HH.getD i 0 + V.getD i 0) % 4294967296) ++ HH.drop j)) ∧ wo.grownBy wx (some hb)) (fun _ i _ => 8 - (intOf i).toNat)
      case atStart => exact ⟨0, by omega, rfl, by simpa using HHB.out, World.grownBy.refl _ _⟩
      case round =>
        obtain ⟨j, hj, rfl, hrow, hgr⟩ := hrel
        by_cases hlt : j < 8
        · obtain ⟨m1, m2, m3⟩ := HMET.out j hlt
          have hwh := words_ownE hrow m2
          have ch := hwh j (by rw [m2]; exact hlt)
          have cv : wr.cell? ⟨gv, j, none⟩ = some (.int .u32 ((V.getD j 0 : Nat) : Int)) := by
            have h := HWV.out j (by rw [HV8.out]; exact hlt)
            rw [Nat.zero_add] at h
            exact (hgr.cell_far ⟨gv, j, none⟩ hgvo (by simpa using hne2)).trans h
          rw [Nat.zero_add, m1] at ch
          have hst := fun z hz => row_store hrow j ((HH.getD j 0 + V.getD j 0) % 4294967296) (z := z) hz
          rw [m3] at hst
          have hgr2 : ∀ v, wo.grownBy (wr.setCell ⟨hb, j, none⟩ v) (some hb) := fun v => hgr.trans (hrow.stored j v).2
          have hfr := hrow.frozenAt j
          have HST := Lib.hid hst
          have HGR := Lib.hid hgr2
          clear m1 m2 m3 hwh hst hgr2 hrow hgr
          generalize HH.getD j 0 = x at *
          generalize V.getD j 0 = y at *
          have hdec : decide ((j : Int) < 8) = true := by rw [decide_eq_true_iff]; omega
          have n0 : (0 : Int) ≤ (j : Int) := by omega
          have n1 : (j : Int) < 8 := by omega
          go_upto_region 14 with fail
          go_region
          all_goals
            go_wp2_with fail
            have hg := HGR.out (Value.int IntKind.u32 (((x : Int) + (y : Int)) % 4294967296))
            exact ⟨⟨j + 1, by omega, by push_cast; rfl, (HST.out _ (by omega)).drew, ⟨hg.os, hg.tape, hg.output, hg.size, hg.block⟩⟩, by simp [intOf]; omega⟩
        · obtain rfl : j = 8 := by omega
          rw [List.drop_of_length_le (by rw [HH8.out]; omega), List.append_nil, ← HF.out] at hrow
          have hend := HA.out.trans (b := wo) hgr
          have hdec : decide (((8 : Nat) : Int) < 8) = false := by decide
          have HROW := Lib.hid hrow
          have HEND := Lib.hid hend
          clear hrow hend hgr HF
          go_wp2_with fail
          rw [HHE.out] at HROW
          exact bodyPost_end (v := .tuple #[]) (by simp [results, Tryd.f64, go_sem]) rfl ⟨⟨_, rfl⟩, HROW.out, HEND.out⟩
end Go.Proofs.YtkihcigojhcmgaaDoor

namespace Go.Proofs.YtkihcigojhcmgaaDoor
open Go.RowKit

theorem bcs_set (L : List UInt8) (j : Nat) (x : UInt8) : (bcs L).set j (.int .u8 (x.toNat : Int)) = bcs (L.set j x) := by simp [bcs, List.map_set]
theorem brow_store {W : World} {base g n cap : Nat} {e : TypeId} {L : List UInt8} (h : W.ownsRow base e 1 (.slice (some ⟨g, 0, none⟩) n cap) n (bcs L)) (j : Nat) (x : UInt8) {z : Int} (hz : z = (x.toNat : Int)) : (W.setCell ⟨g, j, none⟩ (.int .u8 z)).ownsRow base e 1 (.slice (some ⟨g, 0, none⟩) n cap) n (bcs (L.set j x)) := by
  rw [hz, ← bcs_set]; exact (h.stored j _).1
theorem octets_ownE {W : World} {base g n cap : Nat} {e : TypeId} {L : List UInt8} (h : W.ownsRow base e 1 (.slice (some ⟨g, 0, none⟩) n cap) n (bcs L)) (hl : L.length = n) : Octets W g 0 L := by
  intro i hi
  rw [Nat.zero_add, h.cellAt i (by omega), bcs_at L i hi]
theorem bset_next (A : List UInt8) (x : UInt8) (m : Nat) (hm : 0 < m) : (A ++ List.replicate m 0).set A.length x = (A ++ [x]) ++ List.replicate (m - 1) 0 := by
  obtain ⟨m, rfl⟩ : ∃ k, m = k + 1 := ⟨m - 1, by omega⟩
  rw [List.set_append_right _ _ (Nat.le_refl _), Nat.sub_self, List.replicate_succ, List.set_cons_zero]; simp
theorem run_index_words8 (L : List Nat) (i : Nat) (hi : i < 8) (hl : L.length = 8) (w : World) : (Instr.index 111 (.agg (ucs L).toArray) (.int .i64 (i : Int))).run Tryd.prog w = .ok (.int .u32 ((L.getD i 0 : Nat) : Int)) w := by
  have h1 := ucs_at L i (by omega)
  have h3 : ¬ ((i : Int) < 0) := by omega
  have h4 : ¬ (8 ≤ (i : Int)) := by omega
  simp [Instr.index, run_underlying Tryd.underlying111, asIntOf, go_sem, h1]
  intro h
  omega
/-- The bytes of the first j words. -/
def outTo (L : List Nat) (j : Nat) : List UInt8 := (List.range j).flatMap fun i => wordBytes (L.getD i 0)
theorem outTo_length (L : List Nat) (j : Nat) : (outTo L j).length = 4 * j := by
  induction j with
  | zero => rfl
  | succ j ih =>
    have h : outTo L (j + 1) = outTo L j ++ wordBytes (L.getD j 0) := by
      rw [outTo, List.range_succ, List.flatMap_append]; simp [outTo]
    rw [h, List.length_append, ih]; simp [wordBytes]; omega
theorem outTo_succ (L : List Nat) (j : Nat) : outTo L (j + 1) = outTo L j ++ wordBytes (L.getD j 0) := by
  rw [outTo, List.range_succ, List.flatMap_append]; simp [outTo]
theorem wb_at (x : Nat) : (UInt8.ofNat (x / 256 ^ 3 % 256)).toNat = x / 16777216 % 256 ∧ (UInt8.ofNat (x / 256 ^ 2 % 256)).toNat = x / 65536 % 256 ∧ (UInt8.ofNat (x / 256 ^ 1 % 256)).toNat = x / 256 % 256 ∧ (UInt8.ofNat (x / 256 ^ 0 % 256)).toNat = x % 256 := by
  refine ⟨?_, ?_, ?_, ?_⟩
  all_goals
    rw [UInt8.toNat_ofNat']
    omega
/-- What the store of one byte does to the row. -/
theorem out_step (L : List Nat) (j k : Nat) (hj : j < 8) (hk : k < 4) (x : Nat) (_hx : L.getD j 0 = x) :
    ((outTo L j ++ (wordBytes x).take k) ++ List.replicate (32 - (4 * j + k)) 0).set (4 * j + k) ((wordBytes x).getD k 0) = (outTo L j ++ (wordBytes x).take (k + 1)) ++ List.replicate (32 - (4 * j + (k + 1))) 0 := by
  have hl : (outTo L j ++ (wordBytes x).take k).length = 4 * j + k := by
    rw [List.length_append, outTo_length, List.length_take]; simp [wordBytes]; omega
  have h := bset_next (outTo L j ++ (wordBytes x).take k) ((wordBytes x).getD k 0) (32 - (4 * j + k)) (by omega)
  rw [hl] at h
  rw [h, show 32 - (4 * j + (k + 1)) = 32 - (4 * j + k) - 1 by omega]
  congr 1
  rw [List.append_assoc]
  congr 1
  match k, hk with
  | 0, _ => rfl
  | 1, _ => rfl
  | 2, _ => rfl
  | 3, _ => rfl

set_option maxRecDepth 100000 in
set_option maxHeartbeats 2000000 in
theorem digest_any (L : List Nat) (w : World) (hL : L.length = 8) :
    Calls Tryd.prog 65 #[.agg (ucs L).toArray] w fun e w' => e = .returned (.string ⟨(outW L).toArray⟩) ∧ Below w.heap.size w w' := by
  have hox : outW L = outTo L 8 := outW_words L
  have HOX := Lib.hid hox
  clear hox
  obtain ⟨h0, h1, h2, h3, h4, h5, h6, h7, rfl⟩ : ∃ h0 h1 h2 h3 h4 h5 h6 h7, L = [h0, h1, h2, h3, h4, h5, h6, h7] := by
    match L, hL with
    | [h0, h1, h2, h3, h4, h5, h6, h7], _ => exact ⟨h0, h1, h2, h3, h4, h5, h6, h7, rfl⟩
  show Calls Tryd.prog _ #[.agg #[.int .u32 (h0 : Int), .int .u32 (h1 : Int), .int .u32 (h2 : Int), .int .u32 (h3 : Int), .int .u32 (h4 : Int), .int .u32 (h5 : Int), .int .u32 (h6 : Int), .int .u32 (h7 : Int)]] w _
  go_enter Tryd.func65, Tryd.ntmps65
  go_wp2_with fail
  generalize hw1 : (w.alloc _).alloc _ = w1
  have hrow1 : w1.ownsRow w.heap.size 130 1 (.slice (some ⟨w.heap.size + 1, 0, none⟩) 32 32) 32 (bcs (List.replicate 32 0)) := by
    rw [← hw1]
    have h := heap_alloc_new (w.alloc (.cells #[.int .u32 (h0 : Int), .int .u32 (h1 : Int), .int .u32 (h2 : Int), .int .u32 (h3 : Int), .int .u32 (h4 : Int), .int .u32 (h5 : Int), .int .u32 (h6 : Int), .int .u32 (h7 : Int)] 111)) (.cells (bcs (List.replicate 32 0)).toArray 130)
    rw [World.size_alloc] at h
    exact ownsRow_of_block h (by omega) rfl (by unfold maxLen; omega)
  have hb1 : Below w.heap.size w w1 := by rw [← hw1]; exact ((Below.refl _ _).alloc (Nat.le_refl _) _).alloc (by simp) _
  clear hw1
  obtain ⟨L, hLe⟩ : ∃ L, L = [h0, h1, h2, h3, h4, h5, h6, h7] := ⟨_, rfl⟩
  rw [← hLe] at HOX
  have hidx : ∀ (j : Nat), j < 8 → ∀ w, (Instr.index 111 (.agg #[.int .u32 (h0 : Int), .int .u32 (h1 : Int), .int .u32 (h2 : Int), .int .u32 (h3 : Int), .int .u32 (h4 : Int), .int .u32 (h5 : Int), .int .u32 (h6 : Int), .int .u32 (h7 : Int)]) (.int .i64 (j : Int))).run Tryd.prog w = .ok (.int .u32 ((L.getD j 0 : Nat) : Int)) w := by
    rw [hLe]
    exact fun j hj w => run_index_words8 [h0, h1, h2, h3, h4, h5, h6, h7] j hj rfl w
  generalize Value.agg #[.int .u32 (h0 : Int), .int .u32 (h1 : Int), .int .u32 (h2 : Int), .int .u32 (h3 : Int), .int .u32 (h4 : Int), .int .u32 (h5 : Int), .int .u32 (h6 : Int), .int .u32 (h7 : Int)] = CA at *
  have HIDX := Lib.hid hidx
  have HLE := Lib.hid hLe
  clear hidx hLe
  obtain ⟨ob, hob⟩ : ∃ ob, ob = w.heap.size + 1 := ⟨_, rfl⟩
  rw [← hob] at hrow1 ⊢
  have HOB := Lib.hid hob
  clear hob
  go_loopw [8] (fun i wx => ∃ j : Nat, j ≤ 8 ∧ i = .int .i64 j ∧ wx.ownsRow w.heap.size 130 1 (.slice (some ⟨ob, 0, none⟩) 32 32) 32 (bcs (outTo L j ++ List.replicate (32 - 4 * j) 0)) ∧ Below w.heap.size w wx) (fun i _ => 8 - (intOf i).toNat)
  case atStart => exact ⟨0, by omega, rfl, hrow1, hb1⟩
  case round =>
    clear hrow1 hb1
    obtain ⟨j, hj, rfl, hrow, hb⟩ := hrel
    have hbs := hb.size
    by_cases hlt : j < 8
    · have hidx := HIDX.out j hlt
      obtain ⟨x, hx⟩ : ∃ x, x = L.getD j 0 := ⟨_, rfl⟩
      rw [← hx] at hidx
      have HX := Lib.hid hx.symm
      have HID2 := Lib.hid hidx
      have hdec : decide ((j : Int) < 8) = true := by rw [decide_eq_true_iff]; omega
      have HROW := Lib.hid hrow
      obtain ⟨wo, rfl⟩ : ∃ wo : World, wo = wr := ⟨_, rfl⟩
      clear hx hidx hrow
      go_wp2_with (refine wpList_index_run (by rfl) 111 (.tmp 7) (.tmp 8) (by rfl) _ _ _ (by rfl) (by rfl) HID2.out ?_)
      go_loopw [12] (fun c wy => ∃ k : Nat, k ≤ 4 ∧ c = .int .i64 k ∧ wy.ownsRow w.heap.size 130 1 (.slice (some ⟨ob, 0, none⟩) 32 32) 32 (bcs ((outTo L j ++ (wordBytes x).take k) ++ List.replicate (32 - (4 * j + k)) 0)) ∧ Below w.heap.size w wy) (fun c _ => 4 - (intOf c).toNat)
      case atStart => exact ⟨0, by omega, rfl, by simpa using HROW.out, hb⟩
      case round =>
        clear hb hbs
        obtain ⟨k, hk, rfl, hrow, hb⟩ := hrel
        have hbs := hb.size
        by_cases hlk : k < 4
        · have hM := out_step L j k hlt hlk x HX.out
          have hlen : ((outTo L j ++ (wordBytes x).take k) ++ List.replicate (32 - (4 * j + k)) 0).length = 32 := by
            simp [outTo_length, wordBytes]; omega
          have hst := fun z hz => brow_store hrow (4 * j + k) ((wordBytes x).getD k 0) (z := z) hz
          rw [hM] at hst
          obtain ⟨old, hcell⟩ : ∃ old, wr.cell? ⟨ob, 4 * j + k, none⟩ = some old := by
            rw [hrow.cellAt (4 * j + k) (by omega), bcs_at _ _ (by omega)]; exact ⟨_, rfl⟩
          have hfr := hrow.frozenAt (4 * j + k)
          have hval : (x : Int) / 2 ^ (24 - 8 * k) % 256 = (((wordBytes x).getD k 0).toNat : Int) := by
            obtain ⟨q0, q1, q2, q3⟩ := wb_at x
            match k, hlk with
            | 0, _ => show (x : Int) / 16777216 % 256 = ((UInt8.ofNat (x / 256 ^ 3 % 256)).toNat : Int); rw [q0]; omega
            | 1, _ => show (x : Int) / 65536 % 256 = ((UInt8.ofNat (x / 256 ^ 2 % 256)).toNat : Int); rw [q1]; omega
            | 2, _ => show (x : Int) / 256 % 256 = ((UInt8.ofNat (x / 256 ^ 1 % 256)).toNat : Int); rw [q2]; omega
            | 3, _ => show (x : Int) / 1 % 256 = ((UInt8.ofNat (x / 256 ^ 0 % 256)).toNat : Int); rw [q3]; omega
          have HST := Lib.hid hst
          have HVAL := Lib.hid hval
          have n0 : (0 : Int) ≤ 4 * (j : Int) + (k : Int) := by omega
          have n1 : 4 * (j : Int) + (k : Int) < 32 := by omega
          have n2 : (4 * (j : Int) + (k : Int)).toNat = 4 * j + k := by omega
          have hdec : decide ((k : Int) < 4) = true := by rw [decide_eq_true_iff]; omega
          clear hM hlen hst hval hrow
          go_wp2_with fail
          exact ⟨⟨k + 1, by omega, by push_cast; rfl, HST.out _ HVAL.out, hb.setCell (p := ⟨ob, 4 * j + k, none⟩) (show w.heap.size ≤ ob by have := HOB.out; omega) _⟩, by simp [intOf]; omega⟩
        · obtain rfl : k = 4 := by omega
          have hw : outTo L j ++ (wordBytes x).take 4 = outTo L (j + 1) := by rw [outTo_succ, HX.out]; rfl
          rw [hw, show 4 * j + 4 = 4 * (j + 1) by omega] at hrow
          have HR2 := Lib.hid hrow
          have hdec : decide (((4 : Nat) : Int) < 4) = false := by decide
          clear hrow hw
          go_wp2_with fail
          exact ⟨⟨j + 1, by omega, by push_cast; rfl, HR2.out, hb⟩, by simp [intOf]; omega⟩
    · obtain rfl : j = 8 := by omega
      have hdec : decide (((8 : Nat) : Int) < 8) = false := by decide
      rw [show 32 - 4 * 8 = 0 from rfl, List.replicate_zero, List.append_nil, ← HOX.out] at hrow
      have hl : (outW L).length = 32 := by simp [outW]
      have hcv := run_convert_bytes_back (P := Tryd.prog) wr 52 9 5 ⟨ob, 0, none⟩ 32 (outW L) Tryd.underlying52 Tryd.underlying5 Tryd.underlying9 fun i hi => octets_news (octets_ownE hrow hl) i _ (by simp [bcs, hi])
      rw [hl, HLE.out] at hcv
      clear hrow hl HOX
      go_wp2_with fail
      go_ret
      exact ⟨rfl, hb⟩
end Go.Proofs.YtkihcigojhcmgaaDoor
