/- The iterator of the computer. -/
import Derived.Test.YtinknenfhohamaaGreatDoorG30
import Derived.StillTailTactics
namespace Go.Proofs.YtinknenfhohamaaGreatDoor
open Go.RowKit Go.Shelf
set_option maxRecDepth 100000

set_option maxHeartbeats 4000000 in
theorem run1_iter (n : Nat) (hn : 1 ≤ n) (b bx bm : Nat) (ks : List Ev) (M : Nat) (hM : M ≤ 20000) (E : List Ev) (hE : runM M (startM ks) = E) (hEl : E.length < 40) (hkl : ks.length ≤ 20) (hka : ∀ k ∈ ks, 1 ≤ k.a ∧ k.a ≤ 255) :
    Iter Fence.wide n Tryz.prog 44 #[.pointer (some ⟨bx, 0, none⟩), .pointer (some ⟨bm, 0, none⟩)] (fun x : Ev => #[evV x]) (Own b) (KpT b) (fun xs => xs = E) (fun _ => True) 40
      (fun W => VarsAt W b bx bm M ∧ ∃ ak cc, PrB W b (procF (.slice ak ks.length cc) 0 0 0 0) ∧ KeyS W b ak cc ks) := by
  rintro l J Jx W ⟨hv, ak, cc, hp, hk⟩ hJ hJx hY h0
  refine callsIn_wide.2 ?_
  have HJ := Lib.hid hJ
  have HJX := Lib.hid hJx
  have HY := Lib.hid hY
  have HST : Hid (∀ (W1 : World) (gs : Nat), Below W.heap.size W W1 → OpsAt W1 gs → RunI b bx bm gs M E J W1 (startM ks) []) := Lib.hid (fun W1 gs hb ho => by
    have hw := Own.of_below hp hb
    have hlt := hp.lt
    exact ⟨start_ok hkl hka, ⟨ak, cc, hp.same (hb.block b hlt), hk.below (hb.mono (Nat.le_of_lt hlt))⟩, ho, hw.vars hv, hJ [] W W1 h0 hw, Int.le_refl _, by simp [startM], by simpa [startM] using hE⟩)
  have HO := Lib.hid (operations_any W)
  clear hv hp hk hJ hJx hY h0 hE hka hkl
  go_enter Tryz.func44, Tryz.ntmps44
  go_wp2_with fail
  refine HO.out.mono ?_
  rintro e w1 ⟨gs, rfl, hops, hgs, hb1⟩
  have HI := Lib.hid (HST.out w1 gs hb1 hops)
  clear hops hgs hb1 HST HO
  go_wp2_with fail
  go_loopw [5] (fun _ wr => ∃ (m : Mac) (pre : List Ev), RunI b bx bm gs M E J wr m pre) (fun _ wr => M - (intOf ((wr.cell? ⟨b, 515, none⟩).getD undef)).toNat)
  case atStart => exact ⟨_, _, HI.out⟩
  case round =>
    obtain ⟨m, pre, hI⟩ := hrel
    obtain ⟨hok, ⟨ak1, cc1, hp, hks⟩, hops, hvars, hj1, ht0, ht1, hrun⟩ := hI
    obtain ⟨ks1, n1, a1, c1, t1⟩ := m
    simp only at hp hks ht0 ht1 hrun
    have x0 : wr.cell? ⟨bx, 0, none⟩ = some (.pointer (some ⟨b, 0, none⟩)) := cell_of_one hvars.1
    have x1 : wr.cell? ⟨bm, 0, none⟩ = some (.int .i64 (M : Int)) := cell_of_one hvars.2
    have x2 : wr.cell? ⟨b, 515, none⟩ = some (.int .i64 t1) := by rw [hp.cell 515 (by omega)]; rfl
    have HP := Lib.hid hp
    have HKS := Lib.hid hks
    have HOPS := Lib.hid hops
    have HVARS := Lib.hid hvars
    have HJ1 := Lib.hid hj1
    have HRUN := Lib.hid hrun
    have HOK := Lib.hid hok
    have HX2 := Lib.hid x2
    clear hp hks hops hvars hj1 hrun hok
    by_cases ht : t1 < M
    · have hd : decide (t1 < (M : Int)) = true := by rw [decide_eq_true_iff]; exact ht
      go_wp2_with fail
      go_quiet (fail)
      obtain ⟨w2, hw2⟩ : ∃ w2, wr.drewN nq = w2 := ⟨_, rfl⟩
      rw [hw2]
      have HO2 := Lib.hid (show Own b wr w2 by rw [← hw2]; exact (Own.refl HP.out).drewN _)
      have HP2 := Lib.hid (show PrB w2 b (procF (.slice ak1 ks1.length cc1) n1 a1 c1 t1) by rw [← hw2]; exact HP.out.drewN _)
      have y0 : w2.cell? ⟨bx, 0, none⟩ = some (.pointer (some ⟨b, 0, none⟩)) := cell_of_one (HO2.out.vars HVARS.out).1
      clear hw2 x0 x1 x2 hd HP
      go_wp2_with fail
      have hc := HOK.out.c
      simp only at hc
      rcases hc with rfl | rfl | rfl | rfl | rfl | rfl | rfl
      · as_aux_lemma =>
        have z0 : w2.cell? ⟨b, 514, none⟩ = some (.int .u8 0) := by rw [HP2.out.cell 514 (by omega)]; rfl
        have z1 : w2.cell? ⟨b, 1, none⟩ = some (.int .u8 11) := by rw [HP2.out.cell 1 (by omega)]; rfl
        have z2 : w2.cell? ⟨b, 2, none⟩ = some (.int .u8 0) := by rw [HP2.out.cell 2 (by omega)]; rfl
        go_quiet (fail)
        obtain ⟨w3, hw3⟩ : ∃ w3, w2.drewN nq = w3 := ⟨_, rfl⟩
        rw [hw3]
        have HO3 := Lib.hid (show Own b wr w3 by rw [← hw3]; exact HO2.out.drewN _)
        have hp3 : PrB w3 b (procF (.slice ak1 ks1.length cc1) n1 a1 0 t1) := by rw [← hw3]; exact HP2.out.drewN _
        have y1 : w3.cell? ⟨bx, 0, none⟩ = some (.pointer (some ⟨b, 0, none⟩)) := cell_of_one (HO3.out.vars HVARS.out).1
        have z3 : w3.cell? ⟨b, 514, none⟩ = some (.int .u8 0) := by rw [hp3.cell 514 (by omega)]; rfl
        have z4 : w3.frozen? ⟨b, 514, none⟩ = false := hp3.free 514
        have HP3 := Lib.hid hp3
        clear hw3 hp3 z0 z1 z2 y0 HP2 HO2
        go_wp2_with fail
        obtain ⟨w4, hw4⟩ : ∃ w4, w3.setCell ⟨b, 514, none⟩ (.int .u8 2) = w4 := ⟨_, rfl⟩
        rw [hw4]
        have HO4 := Lib.hid (show Own b wr w4 by rw [← hw4]; exact HO3.out.trans (Own.set HP3.out 514 _))
        have hp4 : PrB w4 b (procF (.slice ak1 ks1.length cc1) n1 a1 2 t1) := by rw [← hw4]; exact (HP3.out.set 514 (.int .u8 2)).ext (procF_c _ _ _ _ _ _)
        have y2 : w4.cell? ⟨bx, 0, none⟩ = some (.pointer (some ⟨b, 0, none⟩)) := cell_of_one (HO4.out.vars HVARS.out).1
        have z5 : w4.cell? ⟨b, 1, none⟩ = some (.int .u8 11) := by rw [hp4.cell 1 (by omega)]; rfl
        obtain ⟨p2, p3, p6, p8, q8, p9, q9, p11, hops4⟩ := HO4.out.ops HOPS.out
        have z6 : w4.cell? ⟨gs, 11, none⟩ = some (.func (.func 149) #[] #[.pointer (some ⟨p11, 0, none⟩)]) := by
          obtain ⟨cs, h1, h2, h3, h4, h5, h6, h7, h8⟩ := hops4.sl
          rw [Lib.cell_of_heap h1]; exact h7
        have HP4 := Lib.hid hp4
        have HOP4 := Lib.hid hops4
        clear hw4 hp4 hops4 y1 z3 z4 HO3 HP3
        go_still_tail 12, (by kernel_rfl)
        change wpList _ _ _ _ _ w4.drew
        obtain ⟨w5, hw5⟩ : ∃ w5, w4.drew = w5 := ⟨_, rfl⟩
        rw [hw5]
        have HO5 := Lib.hid (show Own b wr w5 by rw [← hw5]; exact HO4.out.drew)
        have HP5 := Lib.hid (show PrB w5 b (procF (.slice ak1 ks1.length cc1) n1 a1 2 t1) by rw [← hw5]; exact HP4.out.drew)
        have HOP5 := Lib.hid (show OpsIn w5 gs p2 p3 p6 p8 q8 p9 q9 p11 by rw [← hw5]; exact HOP4.out.kept (fun _ _ _ h _ => h))
        clear hw5 HO4 HP4 HOP4 y2 z5 z6
        obtain ⟨ak', cc', L', a', hto, hks', hdis⟩ := take_keys (f := procF (.slice ak1 ks1.length cc1) n1 a1 2 t1) t1 (HKS.out.below HO5.out.below) (keys_le HOK.out) HOK.out.k rfl
        have HKS' := Lib.hid hks'
        have HTO := Lib.hid hto
        have HST := Lib.hid (step_0 (a := a1) (n := n1) hdis)
        clear hto hks' hdis
        go_wp2_with fail
        refine (quiet_11 b p11 _ 0 11 a1 t1 a' _ w5 HP5.out rfl rfl HTO.out HOP5.out.b11).mono ?_
        rintro e w6 ⟨rfl, hp6, ho6⟩
        have HO6 := Lib.hid (HO5.out.trans ho6)
        have ho6b := Lib.hid ho6.below
        have hp6' := PrB.ext hp6 (procF_0a _ _ _ _ _ _ _)
        have y3 : w6.cell? ⟨bx, 0, none⟩ = some (.pointer (some ⟨b, 0, none⟩)) := cell_of_one (HO6.out.vars HVARS.out).1
        have z7 : w6.cell? ⟨b, 515, none⟩ = some (.int .i64 t1) := by rw [hp6'.cell 515 (by omega)]; rfl
        have z8 : w6.frozen? ⟨b, 515, none⟩ = false := hp6'.free 515
        have HP6 := Lib.hid hp6'
        clear hp6 hp6' ho6 HO5 HP5 HOP5
        go_wp2_with fail
        exact round_end HJ.out HOPS.out HVARS.out HJ1.out HRUN.out HOK.out ht0 ht HX2.out HO6.out HP6.out (HKS'.out.below ho6b.out) HST.out
      · by_cases ha0 : a1 = 0
        · as_aux_lemma =>
          subst ha0
          have z0 : w2.cell? ⟨b, 514, none⟩ = some (.int .u8 2) := by rw [HP2.out.cell 514 (by omega)]; rfl
          have z1 : w2.cell? ⟨b, 3, none⟩ = some (.int .u8 9) := by rw [HP2.out.cell 3 (by omega)]; rfl
          have z2 : w2.cell? ⟨b, 4, none⟩ = some (.int .u8 0) := by rw [HP2.out.cell 4 (by omega)]; rfl
          go_quiet (fail)
          obtain ⟨w3, hw3⟩ : ∃ w3, w2.drewN nq = w3 := ⟨_, rfl⟩
          rw [hw3]
          have HO3 := Lib.hid (show Own b wr w3 by rw [← hw3]; exact HO2.out.drewN _)
          have hp3 : PrB w3 b (procF (.slice ak1 ks1.length cc1) n1 0 2 t1) := by rw [← hw3]; exact HP2.out.drewN _
          have y1 : w3.cell? ⟨bx, 0, none⟩ = some (.pointer (some ⟨b, 0, none⟩)) := cell_of_one (HO3.out.vars HVARS.out).1
          have z3 : w3.cell? ⟨b, 514, none⟩ = some (.int .u8 2) := by rw [hp3.cell 514 (by omega)]; rfl
          have z4 : w3.frozen? ⟨b, 514, none⟩ = false := hp3.free 514
          have HP3 := Lib.hid hp3
          clear hw3 hp3 z0 z1 z2 y0 HP2 HO2
          go_wp2_with fail
          obtain ⟨w4, hw4⟩ : ∃ w4, w3.setCell ⟨b, 514, none⟩ (.int .u8 4) = w4 := ⟨_, rfl⟩
          rw [hw4]
          have HO4 := Lib.hid (show Own b wr w4 by rw [← hw4]; exact HO3.out.trans (Own.set HP3.out 514 _))
          have hp4 : PrB w4 b (procF (.slice ak1 ks1.length cc1) n1 0 4 t1) := by rw [← hw4]; exact (HP3.out.set 514 (.int .u8 4)).ext (procF_c _ _ _ _ _ _)
          have y2 : w4.cell? ⟨bx, 0, none⟩ = some (.pointer (some ⟨b, 0, none⟩)) := cell_of_one (HO4.out.vars HVARS.out).1
          have z5 : w4.cell? ⟨b, 1, none⟩ = some (.int .u8 11) := by rw [hp4.cell 1 (by omega)]; rfl
          obtain ⟨p2, p3, p6, p8, q8, p9, q9, p11, hops4⟩ := HO4.out.ops HOPS.out
          have z6 : w4.cell? ⟨gs, 9, none⟩ = some (.func (.func 149) #[] #[.pointer (some ⟨p9, 0, none⟩)]) := by
            obtain ⟨cs, h1, h2, h3, h4, h5, h6, h7, h8⟩ := hops4.sl
            rw [Lib.cell_of_heap h1]; exact h6
          have HP4 := Lib.hid hp4
          have HOP4 := Lib.hid hops4
          clear hw4 hp4 hops4 y1 z3 z4 HO3 HP3
          go_still_tail 12, (by kernel_rfl)
          change wpList _ _ _ _ _ w4.drew
          obtain ⟨w5, hw5⟩ : ∃ w5, w4.drew = w5 := ⟨_, rfl⟩
          rw [hw5]
          have HO5 := Lib.hid (show Own b wr w5 by rw [← hw5]; exact HO4.out.drew)
          have HP5 := Lib.hid (show PrB w5 b (procF (.slice ak1 ks1.length cc1) n1 0 4 t1) by rw [← hw5]; exact HP4.out.drew)
          have HOP5 := Lib.hid (show OpsIn w5 gs p2 p3 p6 p8 q8 p9 q9 p11 by rw [← hw5]; exact HOP4.out.kept (fun _ _ _ h _ => h))
          clear hw5 HO4 HP4 HOP4 y2 z5 z6
          go_wp2_with fail
          refine (quiet_9y b p9 q9 _ 0 11 4 w5 HP5.out rfl rfl HOP5.out.d9 HOP5.out.b9).mono ?_
          rintro e w6 ⟨rfl, hp6, ho6⟩
          have HO6 := Lib.hid (HO5.out.trans ho6)
          have ho6b := Lib.hid ho6.below
          have hp6' := hp6.ext (procF_c _ _ _ _ _ _)
          have y3 : w6.cell? ⟨bx, 0, none⟩ = some (.pointer (some ⟨b, 0, none⟩)) := cell_of_one (HO6.out.vars HVARS.out).1
          have z7 : w6.cell? ⟨b, 515, none⟩ = some (.int .i64 t1) := by rw [hp6'.cell 515 (by omega)]; rfl
          have z8 : w6.frozen? ⟨b, 515, none⟩ = false := hp6'.free 515
          have HP6 := Lib.hid hp6'
          clear hp6 hp6' ho6 HO5 HP5 HOP5
          go_wp2_with fail
          exact round_end HJ.out HOPS.out HVARS.out HJ1.out HRUN.out HOK.out ht0 ht HX2.out HO6.out HP6.out (HKS.out.below HO6.out.below) (by simp [stepM])
        · as_aux_lemma =>
          have HA0 := Lib.hid ha0
          clear ha0
          have z0 : w2.cell? ⟨b, 514, none⟩ = some (.int .u8 2) := by rw [HP2.out.cell 514 (by omega)]; rfl
          have z1 : w2.cell? ⟨b, 3, none⟩ = some (.int .u8 9) := by rw [HP2.out.cell 3 (by omega)]; rfl
          have z2 : w2.cell? ⟨b, 4, none⟩ = some (.int .u8 0) := by rw [HP2.out.cell 4 (by omega)]; rfl
          go_quiet (fail)
          obtain ⟨w3, hw3⟩ : ∃ w3, w2.drewN nq = w3 := ⟨_, rfl⟩
          rw [hw3]
          have HO3 := Lib.hid (show Own b wr w3 by rw [← hw3]; exact HO2.out.drewN _)
          have hp3 : PrB w3 b (procF (.slice ak1 ks1.length cc1) n1 a1 2 t1) := by rw [← hw3]; exact HP2.out.drewN _
          have y1 : w3.cell? ⟨bx, 0, none⟩ = some (.pointer (some ⟨b, 0, none⟩)) := cell_of_one (HO3.out.vars HVARS.out).1
          have z3 : w3.cell? ⟨b, 514, none⟩ = some (.int .u8 2) := by rw [hp3.cell 514 (by omega)]; rfl
          have z4 : w3.frozen? ⟨b, 514, none⟩ = false := hp3.free 514
          have HP3 := Lib.hid hp3
          clear hw3 hp3 z0 z1 z2 y0 HP2 HO2
          go_wp2_with fail
          obtain ⟨w4, hw4⟩ : ∃ w4, w3.setCell ⟨b, 514, none⟩ (.int .u8 4) = w4 := ⟨_, rfl⟩
          rw [hw4]
          have HO4 := Lib.hid (show Own b wr w4 by rw [← hw4]; exact HO3.out.trans (Own.set HP3.out 514 _))
          have hp4 : PrB w4 b (procF (.slice ak1 ks1.length cc1) n1 a1 4 t1) := by rw [← hw4]; exact (HP3.out.set 514 (.int .u8 4)).ext (procF_c _ _ _ _ _ _)
          have y2 : w4.cell? ⟨bx, 0, none⟩ = some (.pointer (some ⟨b, 0, none⟩)) := cell_of_one (HO4.out.vars HVARS.out).1
          have z5 : w4.cell? ⟨b, 1, none⟩ = some (.int .u8 11) := by rw [hp4.cell 1 (by omega)]; rfl
          obtain ⟨p2, p3, p6, p8, q8, p9, q9, p11, hops4⟩ := HO4.out.ops HOPS.out
          have z6 : w4.cell? ⟨gs, 9, none⟩ = some (.func (.func 149) #[] #[.pointer (some ⟨p9, 0, none⟩)]) := by
            obtain ⟨cs, h1, h2, h3, h4, h5, h6, h7, h8⟩ := hops4.sl
            rw [Lib.cell_of_heap h1]; exact h6
          have HP4 := Lib.hid hp4
          have HOP4 := Lib.hid hops4
          clear hw4 hp4 hops4 y1 z3 z4 HO3 HP3
          go_still_tail 12, (by kernel_rfl)
          change wpList _ _ _ _ _ w4.drew
          obtain ⟨w5, hw5⟩ : ∃ w5, w4.drew = w5 := ⟨_, rfl⟩
          rw [hw5]
          have HO5 := Lib.hid (show Own b wr w5 by rw [← hw5]; exact HO4.out.drew)
          have HP5 := Lib.hid (show PrB w5 b (procF (.slice ak1 ks1.length cc1) n1 a1 4 t1) by rw [← hw5]; exact HP4.out.drew)
          have HOP5 := Lib.hid (show OpsIn w5 gs p2 p3 p6 p8 q8 p9 q9 p11 by rw [← hw5]; exact HOP4.out.kept (fun _ _ _ h _ => h))
          clear hw5 HO4 HP4 HOP4 y2 z5 z6
          go_wp2_with fail
          refine (quiet_9n b p9 q9 _ 0 11 a1 w5 HP5.out rfl HA0.out HOP5.out.d9 HOP5.out.b9).mono ?_
          rintro e w6 ⟨rfl, hp6, ho6⟩
          have HO6 := Lib.hid (HO5.out.trans ho6)
          have ho6b := Lib.hid ho6.below
          have hp6' := hp6
          have y3 : w6.cell? ⟨bx, 0, none⟩ = some (.pointer (some ⟨b, 0, none⟩)) := cell_of_one (HO6.out.vars HVARS.out).1
          have z7 : w6.cell? ⟨b, 515, none⟩ = some (.int .i64 t1) := by rw [hp6'.cell 515 (by omega)]; rfl
          have z8 : w6.frozen? ⟨b, 515, none⟩ = false := hp6'.free 515
          have HP6 := Lib.hid hp6'
          clear hp6 hp6' ho6 HO5 HP5 HOP5
          go_wp2_with fail
          exact round_end HJ.out HOPS.out HVARS.out HJ1.out HRUN.out HOK.out ht0 ht HX2.out HO6.out HP6.out (HKS.out.below HO6.out.below) (by have h := HA0.out; simp [stepM, h])
      · as_aux_lemma =>
        have z0 : w2.cell? ⟨b, 514, none⟩ = some (.int .u8 4) := by rw [HP2.out.cell 514 (by omega)]; rfl
        have z1 : w2.cell? ⟨b, 5, none⟩ = some (.int .u8 12) := by rw [HP2.out.cell 5 (by omega)]; rfl
        have z2 : w2.cell? ⟨b, 6, none⟩ = some (.int .u8 20) := by rw [HP2.out.cell 6 (by omega)]; rfl
        go_quiet (fail)
        obtain ⟨w3, hw3⟩ : ∃ w3, w2.drewN nq = w3 := ⟨_, rfl⟩
        rw [hw3]
        have HO3 := Lib.hid (show Own b wr w3 by rw [← hw3]; exact HO2.out.drewN _)
        have hp3 : PrB w3 b (procF (.slice ak1 ks1.length cc1) n1 a1 4 t1) := by rw [← hw3]; exact HP2.out.drewN _
        have y1 : w3.cell? ⟨bx, 0, none⟩ = some (.pointer (some ⟨b, 0, none⟩)) := cell_of_one (HO3.out.vars HVARS.out).1
        have z3 : w3.cell? ⟨b, 514, none⟩ = some (.int .u8 4) := by rw [hp3.cell 514 (by omega)]; rfl
        have z4 : w3.frozen? ⟨b, 514, none⟩ = false := hp3.free 514
        have HP3 := Lib.hid hp3
        clear hw3 hp3 z0 z1 z2 y0 HP2 HO2
        go_wp2_with fail
        obtain ⟨w4, hw4⟩ : ∃ w4, w3.setCell ⟨b, 514, none⟩ (.int .u8 6) = w4 := ⟨_, rfl⟩
        rw [hw4]
        have HO4 := Lib.hid (show Own b wr w4 by rw [← hw4]; exact HO3.out.trans (Own.set HP3.out 514 _))
        have hp4 : PrB w4 b (procF (.slice ak1 ks1.length cc1) n1 a1 6 t1) := by rw [← hw4]; exact (HP3.out.set 514 (.int .u8 6)).ext (procF_c _ _ _ _ _ _)
        have y2 : w4.cell? ⟨bx, 0, none⟩ = some (.pointer (some ⟨b, 0, none⟩)) := cell_of_one (HO4.out.vars HVARS.out).1
        have z5 : w4.cell? ⟨b, 21, none⟩ = some (.int .u8 n1) := by rw [hp4.cell 21 (by omega)]; rfl
        obtain ⟨p2, p3, p6, p8, q8, p9, q9, p11, hops4⟩ := HO4.out.ops HOPS.out
        have z6 : w4.cell? ⟨gs, 12, none⟩ = some (.func (.func 109) #[] #[]) := by
          obtain ⟨cs, h1, h2, h3, h4, h5, h6, h7, h8⟩ := hops4.sl
          rw [Lib.cell_of_heap h1]; exact h8
        have HP4 := Lib.hid hp4
        have HOP4 := Lib.hid hops4
        clear hw4 hp4 hops4 y1 z3 z4 HO3 HP3
        go_still_tail 12, (by kernel_rfl)
        change wpList _ _ _ _ _ w4.drew
        obtain ⟨w5, hw5⟩ : ∃ w5, w4.drew = w5 := ⟨_, rfl⟩
        rw [hw5]
        have HO5 := Lib.hid (show Own b wr w5 by rw [← hw5]; exact HO4.out.drew)
        have HP5 := Lib.hid (show PrB w5 b (procF (.slice ak1 ks1.length cc1) n1 a1 6 t1) by rw [← hw5]; exact HP4.out.drew)
        have HOP5 := Lib.hid (show OpsIn w5 gs p2 p3 p6 p8 q8 p9 q9 p11 by rw [← hw5]; exact HOP4.out.kept (fun _ _ _ h _ => h))
        clear hw5 HO4 HP4 HOP4 y2 z5 z6
        go_wp2_with fail
        refine (text_any b _ 20 n1 a1 t1 w5 HP5.out rfl rfl HOK.out.a0 (n_byte HOK.out)).mono ?_
        rintro e w6 ⟨rfl, hw6⟩
        have HO6 := Lib.hid (show Own b wr w6 by rw [hw6]; exact HO5.out.trans (Own.of_below HP5.out ((Below.refl _ _).alloc (Nat.le_refl _) _)))
        have HP6 := Lib.hid (show PrB w6 b (procF (.slice ak1 ks1.length cc1) n1 a1 6 t1) by rw [hw6]; exact HP5.out.alloc _)
        have hg6 : w6.heap[w5.heap.size]? = some (.cells #[.int .i64 t1, .int .i64 1, .int .i64 (n1 % 80), .int .i64 a1] 28 (0, 0)) := by rw [hw6]; exact heap_last _ _
        obtain ⟨g6, hgg⟩ : ∃ g6, w5.heap.size = g6 := ⟨_, rfl⟩
        rw [hgg] at hg6 ⊢
        have e0 : w6.cell? ⟨g6, 0, none⟩ = some (.int .i64 t1) := by rw [Lib.cell_of_heap hg6]; rfl
        have e1 : w6.cell? ⟨g6, 1, none⟩ = some (.int .i64 1) := by rw [Lib.cell_of_heap hg6]; rfl
        have e2 : w6.cell? ⟨g6, 2, none⟩ = some (.int .i64 (n1 % 80)) := by rw [Lib.cell_of_heap hg6]; rfl
        have e3 : w6.cell? ⟨g6, 3, none⟩ = some (.int .i64 a1) := by rw [Lib.cell_of_heap hg6]; rfl
        obtain ⟨fn, tmps, assign, body, hy, hR⟩ := HY.out pre ⟨t1, 1, n1 % 80, a1⟩ w6 (HJ.out _ _ _ HJ1.out HO6.out) (by have h := congrArg List.length HRUN.out; rw [List.length_append] at h; omega)
        simp only [evV] at hy
        have HR := Lib.hid hR
        clear hw6 hg6 hgg hR HO5 HP5 HOP5 HY
        go_upto_region 8 with fail
        refine (wpIn_wide (n := n)).1 ?_
        gi_wp2
        refine HR.out.mono ?_
        rintro e w7 (⟨rfl, hj7, hk7⟩ | ⟨rfl, hj7⟩)
        · have HP7 := Lib.hid (hk7.pr HP6.out)
          have y3 : w7.cell? ⟨bx, 0, none⟩ = some (.pointer (some ⟨b, 0, none⟩)) := cell_of_one (hk7.vars (HO6.out.vars HVARS.out)).1
          have z7 : w7.cell? ⟨b, 515, none⟩ = some (.int .i64 t1) := by rw [HP7.out.cell 515 (by omega)]; rfl
          have z8 : w7.frozen? ⟨b, 515, none⟩ = false := HP7.out.free 515
          have HJ7 := Lib.hid hj7
          have HK7 := Lib.hid hk7
          clear hj7 hk7 e0 e1 e2 e3 hy HR
          gi_wp2
          go_wp2_with fail
          exact round_event HJ.out HOPS.out HVARS.out HRUN.out HOK.out ht0 ht HX2.out HO6.out HK7.out HJ7.out HP7.out (HKS.out.below (HO6.out.below.trans HK7.out.1)) rfl
        · have HJ7 := Lib.hid hj7
          clear hj7 e0 e1 e2 e3 hy HR
          gi_wp2
          go_wp2_with fail
          exact bodyPost_ret (results_none rfl _ _ _) rfl ⟨⟨_, rfl⟩, .inr ⟨_, trivial, HJ7.out⟩⟩
      · as_aux_lemma =>
        have z0 : w2.cell? ⟨b, 514, none⟩ = some (.int .u8 6) := by rw [HP2.out.cell 514 (by omega)]; rfl
        have z1 : w2.cell? ⟨b, 7, none⟩ = some (.int .u8 2) := by rw [HP2.out.cell 7 (by omega)]; rfl
        have z2 : w2.cell? ⟨b, 8, none⟩ = some (.int .u8 20) := by rw [HP2.out.cell 8 (by omega)]; rfl
        go_quiet (fail)
        obtain ⟨w3, hw3⟩ : ∃ w3, w2.drewN nq = w3 := ⟨_, rfl⟩
        rw [hw3]
        have HO3 := Lib.hid (show Own b wr w3 by rw [← hw3]; exact HO2.out.drewN _)
        have hp3 : PrB w3 b (procF (.slice ak1 ks1.length cc1) n1 a1 6 t1) := by rw [← hw3]; exact HP2.out.drewN _
        have y1 : w3.cell? ⟨bx, 0, none⟩ = some (.pointer (some ⟨b, 0, none⟩)) := cell_of_one (HO3.out.vars HVARS.out).1
        have z3 : w3.cell? ⟨b, 514, none⟩ = some (.int .u8 6) := by rw [hp3.cell 514 (by omega)]; rfl
        have z4 : w3.frozen? ⟨b, 514, none⟩ = false := hp3.free 514
        have HP3 := Lib.hid hp3
        clear hw3 hp3 z0 z1 z2 y0 HP2 HO2
        go_wp2_with fail
        obtain ⟨w4, hw4⟩ : ∃ w4, w3.setCell ⟨b, 514, none⟩ (.int .u8 8) = w4 := ⟨_, rfl⟩
        rw [hw4]
        have HO4 := Lib.hid (show Own b wr w4 by rw [← hw4]; exact HO3.out.trans (Own.set HP3.out 514 _))
        have hp4 : PrB w4 b (procF (.slice ak1 ks1.length cc1) n1 a1 8 t1) := by rw [← hw4]; exact (HP3.out.set 514 (.int .u8 8)).ext (procF_c _ _ _ _ _ _)
        have y2 : w4.cell? ⟨bx, 0, none⟩ = some (.pointer (some ⟨b, 0, none⟩)) := cell_of_one (HO4.out.vars HVARS.out).1
        have z5 : w4.cell? ⟨b, 21, none⟩ = some (.int .u8 n1) := by rw [hp4.cell 21 (by omega)]; rfl
        obtain ⟨p2, p3, p6, p8, q8, p9, q9, p11, hops4⟩ := HO4.out.ops HOPS.out
        have z6 : w4.cell? ⟨gs, 2, none⟩ = some (.func (.func 149) #[] #[.pointer (some ⟨p2, 0, none⟩)]) := by
          obtain ⟨cs, h1, h2, h3, h4, h5, h6, h7, h8⟩ := hops4.sl
          rw [Lib.cell_of_heap h1]; exact h2
        have HP4 := Lib.hid hp4
        have HOP4 := Lib.hid hops4
        clear hw4 hp4 hops4 y1 z3 z4 HO3 HP3
        go_still_tail 12, (by kernel_rfl)
        change wpList _ _ _ _ _ w4.drew
        obtain ⟨w5, hw5⟩ : ∃ w5, w4.drew = w5 := ⟨_, rfl⟩
        rw [hw5]
        have HO5 := Lib.hid (show Own b wr w5 by rw [← hw5]; exact HO4.out.drew)
        have HP5 := Lib.hid (show PrB w5 b (procF (.slice ak1 ks1.length cc1) n1 a1 8 t1) by rw [← hw5]; exact HP4.out.drew)
        have HOP5 := Lib.hid (show OpsIn w5 gs p2 p3 p6 p8 q8 p9 q9 p11 by rw [← hw5]; exact HOP4.out.kept (fun _ _ _ h _ => h))
        clear hw5 HO4 HP4 HOP4 y2 z5 z6
        go_wp2_with fail
        refine (quiet_2 b p2 _ 20 n1 a1 w5 HP5.out rfl HOP5.out.b2).mono ?_
        rintro e w6 ⟨rfl, hp6, ho6⟩
        have HO6 := Lib.hid (HO5.out.trans ho6)
        have ho6b := Lib.hid ho6.below
        have hp6' := hp6.ext (procF_a _ _ _ _ _ _)
        have y3 : w6.cell? ⟨bx, 0, none⟩ = some (.pointer (some ⟨b, 0, none⟩)) := cell_of_one (HO6.out.vars HVARS.out).1
        have z7 : w6.cell? ⟨b, 515, none⟩ = some (.int .i64 t1) := by rw [hp6'.cell 515 (by omega)]; rfl
        have z8 : w6.frozen? ⟨b, 515, none⟩ = false := hp6'.free 515
        have HP6 := Lib.hid hp6'
        clear hp6 hp6' ho6 HO5 HP5 HOP5
        go_wp2_with fail
        exact round_end HJ.out HOPS.out HVARS.out HJ1.out HRUN.out HOK.out ht0 ht HX2.out HO6.out HP6.out (HKS.out.below HO6.out.below) rfl
      · as_aux_lemma =>
        have z0 : w2.cell? ⟨b, 514, none⟩ = some (.int .u8 8) := by rw [HP2.out.cell 514 (by omega)]; rfl
        have z1 : w2.cell? ⟨b, 9, none⟩ = some (.int .u8 6) := by rw [HP2.out.cell 9 (by omega)]; rfl
        have z2 : w2.cell? ⟨b, 10, none⟩ = some (.int .u8 19) := by rw [HP2.out.cell 10 (by omega)]; rfl
        go_quiet (fail)
        obtain ⟨w3, hw3⟩ : ∃ w3, w2.drewN nq = w3 := ⟨_, rfl⟩
        rw [hw3]
        have HO3 := Lib.hid (show Own b wr w3 by rw [← hw3]; exact HO2.out.drewN _)
        have hp3 : PrB w3 b (procF (.slice ak1 ks1.length cc1) n1 a1 8 t1) := by rw [← hw3]; exact HP2.out.drewN _
        have y1 : w3.cell? ⟨bx, 0, none⟩ = some (.pointer (some ⟨b, 0, none⟩)) := cell_of_one (HO3.out.vars HVARS.out).1
        have z3 : w3.cell? ⟨b, 514, none⟩ = some (.int .u8 8) := by rw [hp3.cell 514 (by omega)]; rfl
        have z4 : w3.frozen? ⟨b, 514, none⟩ = false := hp3.free 514
        have HP3 := Lib.hid hp3
        clear hw3 hp3 z0 z1 z2 y0 HP2 HO2
        go_wp2_with fail
        obtain ⟨w4, hw4⟩ : ∃ w4, w3.setCell ⟨b, 514, none⟩ (.int .u8 10) = w4 := ⟨_, rfl⟩
        rw [hw4]
        have HO4 := Lib.hid (show Own b wr w4 by rw [← hw4]; exact HO3.out.trans (Own.set HP3.out 514 _))
        have hp4 : PrB w4 b (procF (.slice ak1 ks1.length cc1) n1 a1 10 t1) := by rw [← hw4]; exact (HP3.out.set 514 (.int .u8 10)).ext (procF_c _ _ _ _ _ _)
        have y2 : w4.cell? ⟨bx, 0, none⟩ = some (.pointer (some ⟨b, 0, none⟩)) := cell_of_one (HO4.out.vars HVARS.out).1
        have z5 : w4.cell? ⟨b, 20, none⟩ = some (.int .u8 1) := by rw [hp4.cell 20 (by omega)]; rfl
        obtain ⟨p2, p3, p6, p8, q8, p9, q9, p11, hops4⟩ := HO4.out.ops HOPS.out
        have z6 : w4.cell? ⟨gs, 6, none⟩ = some (.func (.func 149) #[] #[.pointer (some ⟨p6, 0, none⟩)]) := by
          obtain ⟨cs, h1, h2, h3, h4, h5, h6, h7, h8⟩ := hops4.sl
          rw [Lib.cell_of_heap h1]; exact h4
        have HP4 := Lib.hid hp4
        have HOP4 := Lib.hid hops4
        clear hw4 hp4 hops4 y1 z3 z4 HO3 HP3
        go_still_tail 12, (by kernel_rfl)
        change wpList _ _ _ _ _ w4.drew
        obtain ⟨w5, hw5⟩ : ∃ w5, w4.drew = w5 := ⟨_, rfl⟩
        rw [hw5]
        have HO5 := Lib.hid (show Own b wr w5 by rw [← hw5]; exact HO4.out.drew)
        have HP5 := Lib.hid (show PrB w5 b (procF (.slice ak1 ks1.length cc1) n1 a1 10 t1) by rw [← hw5]; exact HP4.out.drew)
        have HOP5 := Lib.hid (show OpsIn w5 gs p2 p3 p6 p8 q8 p9 q9 p11 by rw [← hw5]; exact HOP4.out.kept (fun _ _ _ h _ => h))
        clear hw5 HO4 HP4 HOP4 y2 z5 z6
        have HS8 := Lib.hid (wrap_8 HOK.out)
        go_wp2_with fail
        refine (quiet_6 b p6 _ 19 1 a1 (a1 + 1) w5 HP5.out rfl HS8.out HOP5.out.b6).mono ?_
        rintro e w6 ⟨rfl, hp6, ho6⟩
        have HO6 := Lib.hid (HO5.out.trans ho6)
        have ho6b := Lib.hid ho6.below
        have hp6' := hp6.ext (procF_a _ _ _ _ _ _)
        have y3 : w6.cell? ⟨bx, 0, none⟩ = some (.pointer (some ⟨b, 0, none⟩)) := cell_of_one (HO6.out.vars HVARS.out).1
        have z7 : w6.cell? ⟨b, 515, none⟩ = some (.int .i64 t1) := by rw [hp6'.cell 515 (by omega)]; rfl
        have z8 : w6.frozen? ⟨b, 515, none⟩ = false := hp6'.free 515
        have HP6 := Lib.hid hp6'
        clear hp6 hp6' ho6 HO5 HP5 HOP5
        go_wp2_with fail
        exact round_end HJ.out HOPS.out HVARS.out HJ1.out HRUN.out HOK.out ht0 ht HX2.out HO6.out HP6.out (HKS.out.below HO6.out.below) rfl
      · as_aux_lemma =>
        have z0 : w2.cell? ⟨b, 514, none⟩ = some (.int .u8 10) := by rw [HP2.out.cell 514 (by omega)]; rfl
        have z1 : w2.cell? ⟨b, 11, none⟩ = some (.int .u8 3) := by rw [HP2.out.cell 11 (by omega)]; rfl
        have z2 : w2.cell? ⟨b, 12, none⟩ = some (.int .u8 20) := by rw [HP2.out.cell 12 (by omega)]; rfl
        go_quiet (fail)
        obtain ⟨w3, hw3⟩ : ∃ w3, w2.drewN nq = w3 := ⟨_, rfl⟩
        rw [hw3]
        have HO3 := Lib.hid (show Own b wr w3 by rw [← hw3]; exact HO2.out.drewN _)
        have hp3 : PrB w3 b (procF (.slice ak1 ks1.length cc1) n1 a1 10 t1) := by rw [← hw3]; exact HP2.out.drewN _
        have y1 : w3.cell? ⟨bx, 0, none⟩ = some (.pointer (some ⟨b, 0, none⟩)) := cell_of_one (HO3.out.vars HVARS.out).1
        have z3 : w3.cell? ⟨b, 514, none⟩ = some (.int .u8 10) := by rw [hp3.cell 514 (by omega)]; rfl
        have z4 : w3.frozen? ⟨b, 514, none⟩ = false := hp3.free 514
        have HP3 := Lib.hid hp3
        clear hw3 hp3 z0 z1 z2 y0 HP2 HO2
        go_wp2_with fail
        obtain ⟨w4, hw4⟩ : ∃ w4, w3.setCell ⟨b, 514, none⟩ (.int .u8 12) = w4 := ⟨_, rfl⟩
        rw [hw4]
        have HO4 := Lib.hid (show Own b wr w4 by rw [← hw4]; exact HO3.out.trans (Own.set HP3.out 514 _))
        have hp4 : PrB w4 b (procF (.slice ak1 ks1.length cc1) n1 a1 12 t1) := by rw [← hw4]; exact (HP3.out.set 514 (.int .u8 12)).ext (procF_c _ _ _ _ _ _)
        have y2 : w4.cell? ⟨bx, 0, none⟩ = some (.pointer (some ⟨b, 0, none⟩)) := cell_of_one (HO4.out.vars HVARS.out).1
        have z5 : w4.cell? ⟨b, 21, none⟩ = some (.int .u8 n1) := by rw [hp4.cell 21 (by omega)]; rfl
        obtain ⟨p2, p3, p6, p8, q8, p9, q9, p11, hops4⟩ := HO4.out.ops HOPS.out
        have z6 : w4.cell? ⟨gs, 3, none⟩ = some (.func (.func 149) #[] #[.pointer (some ⟨p3, 0, none⟩)]) := by
          obtain ⟨cs, h1, h2, h3, h4, h5, h6, h7, h8⟩ := hops4.sl
          rw [Lib.cell_of_heap h1]; exact h3
        have HP4 := Lib.hid hp4
        have HOP4 := Lib.hid hops4
        clear hw4 hp4 hops4 y1 z3 z4 HO3 HP3
        go_still_tail 12, (by kernel_rfl)
        change wpList _ _ _ _ _ w4.drew
        obtain ⟨w5, hw5⟩ : ∃ w5, w4.drew = w5 := ⟨_, rfl⟩
        rw [hw5]
        have HO5 := Lib.hid (show Own b wr w5 by rw [← hw5]; exact HO4.out.drew)
        have HP5 := Lib.hid (show PrB w5 b (procF (.slice ak1 ks1.length cc1) n1 a1 12 t1) by rw [← hw5]; exact HP4.out.drew)
        have HOP5 := Lib.hid (show OpsIn w5 gs p2 p3 p6 p8 q8 p9 q9 p11 by rw [← hw5]; exact HOP4.out.kept (fun _ _ _ h _ => h))
        clear hw5 HO4 HP4 HOP4 y2 z5 z6
        go_wp2_with fail
        refine (quiet_3 b p3 _ n1 a1 n1 20 w5 HP5.out rfl (by omega) rfl HOP5.out.b3).mono ?_
        rintro e w6 ⟨rfl, hp6, ho6⟩
        have HO6 := Lib.hid (HO5.out.trans ho6)
        have ho6b := Lib.hid ho6.below
        have hp6' := hp6.ext (procF_20 _ _ _ _ _ _)
        have y3 : w6.cell? ⟨bx, 0, none⟩ = some (.pointer (some ⟨b, 0, none⟩)) := cell_of_one (HO6.out.vars HVARS.out).1
        have z7 : w6.cell? ⟨b, 515, none⟩ = some (.int .i64 t1) := by rw [hp6'.cell 515 (by omega)]; rfl
        have z8 : w6.frozen? ⟨b, 515, none⟩ = false := hp6'.free 515
        have HP6 := Lib.hid hp6'
        clear hp6 hp6' ho6 HO5 HP5 HOP5
        go_wp2_with fail
        exact round_end HJ.out HOPS.out HVARS.out HJ1.out HRUN.out HOK.out ht0 ht HX2.out HO6.out HP6.out (HKS.out.below HO6.out.below) rfl
      · as_aux_lemma =>
        have z0 : w2.cell? ⟨b, 514, none⟩ = some (.int .u8 12) := by rw [HP2.out.cell 514 (by omega)]; rfl
        have z1 : w2.cell? ⟨b, 13, none⟩ = some (.int .u8 8) := by rw [HP2.out.cell 13 (by omega)]; rfl
        have z2 : w2.cell? ⟨b, 14, none⟩ = some (.int .u8 0) := by rw [HP2.out.cell 14 (by omega)]; rfl
        go_quiet (fail)
        obtain ⟨w3, hw3⟩ : ∃ w3, w2.drewN nq = w3 := ⟨_, rfl⟩
        rw [hw3]
        have HO3 := Lib.hid (show Own b wr w3 by rw [← hw3]; exact HO2.out.drewN _)
        have hp3 : PrB w3 b (procF (.slice ak1 ks1.length cc1) n1 a1 12 t1) := by rw [← hw3]; exact HP2.out.drewN _
        have y1 : w3.cell? ⟨bx, 0, none⟩ = some (.pointer (some ⟨b, 0, none⟩)) := cell_of_one (HO3.out.vars HVARS.out).1
        have z3 : w3.cell? ⟨b, 514, none⟩ = some (.int .u8 12) := by rw [hp3.cell 514 (by omega)]; rfl
        have z4 : w3.frozen? ⟨b, 514, none⟩ = false := hp3.free 514
        have HP3 := Lib.hid hp3
        clear hw3 hp3 z0 z1 z2 y0 HP2 HO2
        go_wp2_with fail
        obtain ⟨w4, hw4⟩ : ∃ w4, w3.setCell ⟨b, 514, none⟩ (.int .u8 14) = w4 := ⟨_, rfl⟩
        rw [hw4]
        have HO4 := Lib.hid (show Own b wr w4 by rw [← hw4]; exact HO3.out.trans (Own.set HP3.out 514 _))
        have hp4 : PrB w4 b (procF (.slice ak1 ks1.length cc1) n1 a1 14 t1) := by rw [← hw4]; exact (HP3.out.set 514 (.int .u8 14)).ext (procF_c _ _ _ _ _ _)
        have y2 : w4.cell? ⟨bx, 0, none⟩ = some (.pointer (some ⟨b, 0, none⟩)) := cell_of_one (HO4.out.vars HVARS.out).1
        have z5 : w4.cell? ⟨b, 1, none⟩ = some (.int .u8 11) := by rw [hp4.cell 1 (by omega)]; rfl
        obtain ⟨p2, p3, p6, p8, q8, p9, q9, p11, hops4⟩ := HO4.out.ops HOPS.out
        have z6 : w4.cell? ⟨gs, 8, none⟩ = some (.func (.func 149) #[] #[.pointer (some ⟨p8, 0, none⟩)]) := by
          obtain ⟨cs, h1, h2, h3, h4, h5, h6, h7, h8⟩ := hops4.sl
          rw [Lib.cell_of_heap h1]; exact h5
        have HP4 := Lib.hid hp4
        have HOP4 := Lib.hid hops4
        clear hw4 hp4 hops4 y1 z3 z4 HO3 HP3
        go_still_tail 12, (by kernel_rfl)
        change wpList _ _ _ _ _ w4.drew
        obtain ⟨w5, hw5⟩ : ∃ w5, w4.drew = w5 := ⟨_, rfl⟩
        rw [hw5]
        have HO5 := Lib.hid (show Own b wr w5 by rw [← hw5]; exact HO4.out.drew)
        have HP5 := Lib.hid (show PrB w5 b (procF (.slice ak1 ks1.length cc1) n1 a1 14 t1) by rw [← hw5]; exact HP4.out.drew)
        have HOP5 := Lib.hid (show OpsIn w5 gs p2 p3 p6 p8 q8 p9 q9 p11 by rw [← hw5]; exact HOP4.out.kept (fun _ _ _ h _ => h))
        clear hw5 HO4 HP4 HOP4 y2 z5 z6
        go_wp2_with fail
        refine (quiet_8 b p8 q8 _ 0 11 a1 14 w5 HP5.out rfl rfl HOP5.out.d8 HOP5.out.b8).mono ?_
        rintro e w6 ⟨rfl, hp6, ho6⟩
        have HO6 := Lib.hid (HO5.out.trans ho6)
        have ho6b := Lib.hid ho6.below
        have hp6' := hp6.ext (procF_c _ _ _ _ _ _)
        have y3 : w6.cell? ⟨bx, 0, none⟩ = some (.pointer (some ⟨b, 0, none⟩)) := cell_of_one (HO6.out.vars HVARS.out).1
        have z7 : w6.cell? ⟨b, 515, none⟩ = some (.int .i64 t1) := by rw [hp6'.cell 515 (by omega)]; rfl
        have z8 : w6.frozen? ⟨b, 515, none⟩ = false := hp6'.free 515
        have HP6 := Lib.hid hp6'
        clear hp6 hp6' ho6 HO5 HP5 HOP5
        go_wp2_with fail
        exact round_end HJ.out HOPS.out HVARS.out HJ1.out HRUN.out HOK.out ht0 ht HX2.out HO6.out HP6.out (HKS.out.below HO6.out.below) rfl
    · have hd : decide (t1 < (M : Int)) = false := by rw [decide_eq_false_iff_not]; exact ht
      go_wp2_with fail
      go_quiet (fail)
      go_wp2_with fail
      have hM0 : M - t1.toNat = 0 := by omega
      have hr := HRUN.out
      rw [hM0, runM, List.append_nil] at hr
      subst hr
      exact bodyPost_end (results_none rfl _ _ _) rfl ⟨⟨_, rfl⟩, .inl ⟨_, rfl, HJ.out _ _ _ HJ1.out ((Own.refl HP.out).drewN _)⟩⟩
end Go.Proofs.YtinknenfhohamaaGreatDoor
