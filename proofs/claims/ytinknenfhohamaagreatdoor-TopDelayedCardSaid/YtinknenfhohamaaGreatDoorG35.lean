/- Perform of the program that waits for keys and copies them: the call. -/
import Derived.Test.YtinknenfhohamaaGreatDoorG34
import Derived.Test.YtinknenfhohamaaGreatDoorG31
import Derived.Test.YtinknenfhohamaaGreatDoorG32
namespace Go.Proofs.YtinknenfhohamaaGreatDoor
open Go.RowKit
set_option maxRecDepth 100000

/-- Arguments of Perform: keys as Typed and the statement's own loop give them. -/
structure KeysArg (W : World) (ak : Option Addr) (c : Nat) (ks : List Ev) : Prop where
  evs : EvS W ak ks
  nil : ks = [] → ak = none ∧ c = 0
  len : ks.length ≤ 20
  ok : ∀ e ∈ ks, KeyOk e
  asc : AscK ks
set_option maxHeartbeats 2000000 in
theorem perform_any (ak : Option Addr) (c : Nat) (ks : List Ev) (M : Nat) (E : List Ev) (w : World) (hK : KeysArg w ak c ks) (hM : M ≤ 20000) (hE : runM M (startM ks) = E) (hEl : E.length < 40) :
    Calls Tryz.prog 7 #[.string { data := #[11, 0, 9, 0, 12, 20, 2, 20, 6, 19, 3, 20, 8, 0, 0, 0, 0, 0, 0, 1] }, .string { data := #[] }, .slice ak ks.length c, .int .i64 (M : Int)] w fun e w' => ∃ v, e = .returned (.tuple #[v, .int .i64 0]) ∧ ERow w' w.heap.size v E ∧ Below w.heap.size w w' := by
  obtain ⟨h1, h2, h3, h4, h5⟩ := hK
  have HK := Lib.hid (areKeys_any ak c ks w h1 (by omega) h4 h5)
  have HEV := Lib.hid h1
  have HCL := Lib.hid (fun (W : World) (h : EvS W ak ks) => clone_any ak c ks W h (by omega) h2)
  have HIT := Lib.hid (fun b bx bm => run1_iter 4 (by omega) b bx bm ks M hM E hE hEl h3 (fun k hk => ⟨(h4 k hk).2.2.2.1, (h4 k hk).2.2.2.2.1⟩))
  obtain ⟨m, hm⟩ : ∃ m, ks.length = m := ⟨_, rfl⟩
  rw [hm] at HK HCL ⊢
  have HM := Lib.hid hm
  have hd : decide ((M : Int) < 0) = false := by rw [decide_eq_false_iff_not]; omega
  have hd2 : decide (20000 < (M : Int)) = false := by rw [decide_eq_false_iff_not]; omega
  have hd3 : decide (20000 < M) = false := by rw [decide_eq_false_iff_not]; omega
  clear h1 h2 h3 h4 h5 hE hm
  go_enter Tryz.func7, Tryz.ntmps7
  go_wp2_with fail
  refine (valid12_any _).mono ?_
  rintro e w1 ⟨rfl, rfl⟩
  go_wp2_with fail
  refine HK.out.mono ?_
  rintro e w1 ⟨rfl, hb1⟩
  have HB1 := Lib.hid hb1
  clear hb1 HK
  go_wp2_with fail
  refine (HCL.out w1 (HEV.out.below HB1.out)).mono ?_
  rintro e w2 ⟨ak', cc, rfl, h1, h2, h3, h4, hb2⟩
  have HKS := Lib.hid (And.intro h1 (And.intro h2 (And.intro h3 h4)))
  have HB2 := Lib.hid (HB1.out.trans (hb2.mono HB1.out.size))
  clear h1 h2 h3 h4 hb2 HB1 HCL HEV
  go_wp2_with fail
  obtain ⟨b, hb⟩ : ∃ b, w2.heap.size = b := ⟨_, rfl⟩
  obtain ⟨wB, hwB⟩ : ∃ wB, w2.alloc (.cells (Tryz.zeroCells61.setIfInBounds 0 (.slice ak' m cc)) 61) = wB := ⟨_, rfl⟩
  have hblk : wB.heap[b]? = some (.cells (procL (.slice ak' m cc) (List.replicate 256 (.int .u8 0))).toArray 61 (0, 0)) := by rw [← hwB, ← zero_proc]; exact heap_last' _ _ hb
  have HBB := Lib.hid (show Below b w2 wB by rw [← hwB, ← hb]; exact (Below.refl _ _).alloc (Nat.le_refl _) _)
  have hcp := copy_run _ b wB hblk
  obtain ⟨wC, hwC⟩ : ∃ wC, wB.setRow b (procL (.slice ak' m cc) echoM).toArray = wC := ⟨_, rfl⟩
  rw [hwC] at hcp
  have hblk2 : wC.heap[b]? = some (.cells (procL (.slice ak' m cc) echoM).toArray 61 (0, 0)) := by rw [← hwC]; exact setRow_heap wB b _ _ _ _ hblk
  have HPR := Lib.hid (show PrB wC b (procF (.slice ak' m cc) 0 0 0 0) from ⟨_, hblk2, fun i hi => by rw [List.getElem?_toArray]; exact proc_f (by simp [echoM, echoL]) echoM_f i hi⟩)
  have HBK := Lib.hid hb
  have HSR := Lib.hid (show Below b wB wC by rw [← hwC]; exact setRow_below wB b _)
  rw [hb, hwB]
  clear hb hwB hblk hblk2 hwC
  rw [hcp]
  have hce : (Builtin.copy_ #[62, 9] 3 #[.slice (some ⟨b, 257, none⟩) 256 256, .string { data := #[] }]).run Tryz.prog wC = .ok (.int .i64 0) wC := Lib.run_copy_empty_string (P := Tryz.prog) wC 62 9 3 5 (some ⟨b, 257, none⟩) 256 256 { data := #[] } Tryz.underlying62 (by kernel_rfl) rfl
  have HBC : Hid (Below b w2 wC) := Lib.hid (HBB.out.trans HSR.out)
  clear hcp
  go_wp2_with fail
  refine (run_any b M _).mono ?_
  rintro e w' ⟨rfl, rfl⟩
  obtain ⟨wD, hwD⟩ : ∃ wD, (wC.alloc (.cells #[.pointer (some ⟨b, 0, none⟩)] 56)).alloc (.cells #[.int .i64 (M : Int)] 3) = wD := ⟨_, rfl⟩
  obtain ⟨bx, hbx⟩ : ∃ bx, wC.heap.size = bx := ⟨_, rfl⟩
  have HBD := Lib.hid (show Below wC.heap.size wC wD by rw [← hwD]; exact ((Below.refl _ _).alloc (Nat.le_refl _) _).alloc (by rw [size_alloc]; omega) _)
  have HVA := Lib.hid (show VarsAt wD b bx (bx + 1) M by rw [← hwD]; exact ⟨heap_prev' _ _ _ hbx, heap_last' _ _ (by rw [size_alloc, hbx])⟩)
  rw [hwD, hbx]
  clear hwD
  go_wp2_with fail
  have hPre : ∀ W, Below wD.heap.size wD W → VarsAt W b bx (bx + 1) M ∧ ∃ ak cc, PrB W b (procF (.slice ak ks.length cc) 0 0 0 0) ∧ KeyS W b ak cc ks := by
    intro W hW
    have hbC := HPR.out.lt
    have hbD : b < wD.heap.size := Nat.lt_of_lt_of_le hbC HBD.out.size
    obtain ⟨k1, k2, k3, k4⟩ := HKS.out
    have hbb := HBK.out
    have hm := HM.out
    refine ⟨⟨(hW.block _ (Array.getElem?_eq_some_iff.1 HVA.out.1).1).trans HVA.out.1, (hW.block _ (Array.getElem?_eq_some_iff.1 HVA.out.2).1).trans HVA.out.2⟩, ak', cc, ?_, ?_⟩
    · rw [hm]
      exact (HPR.out.same (HBD.out.block b hbC)).same (hW.block b hbD)
    · have hk2 : KeyS w2 b ak' cc ks := ⟨k1, by rw [hm]; exact k2, k3, fun x hx => by rw [← hbb]; exact k4 x hx⟩
      exact ((hk2.below HBC.out).below (HBD.out.mono (Nat.le_of_lt hbC))).below (hW.mono (Nat.le_of_lt hbD))
  have hbD : b < wD.heap.size := Nat.lt_of_lt_of_le HPR.out.lt HBD.out.size
  have HCO := Lib.hid (collect_any b bx (bx + 1) E hEl wD _ hbD hPre (HIT.out b bx (bx + 1)))
  have HFB : Hid (∀ W', Below b wD W' → Below w.heap.size w W') := Lib.hid (fun W' h => by
    have h1 := HB2.out.size
    have h2 := HBK.out
    have h3 := HPR.out.lt
    exact HB2.out.trans (((HBC.out.trans (HBD.out.mono (Nat.le_of_lt h3))).trans h).mono (by omega)))
  have HFS : Hid (w.heap.size ≤ wD.heap.size) := Lib.hid (by
    have h1 := HB2.out.size
    have h2 := HBC.out.size
    have h3 := HBD.out.size
    omega)
  clear hPre hbD HIT
  refine HCO.out.mono ?_
  rintro e w' ⟨v, rfl, hr, hb'⟩
  have HR := Lib.hid (hr.mono HFS.out)
  have HBF := Lib.hid (HFB.out _ hb')
  clear hr hb' hbx
  go_wp2_with fail
  go_ret2
  exact ⟨v, rfl, HR.out, HBF.out⟩
end Go.Proofs.YtinknenfhohamaaGreatDoor
