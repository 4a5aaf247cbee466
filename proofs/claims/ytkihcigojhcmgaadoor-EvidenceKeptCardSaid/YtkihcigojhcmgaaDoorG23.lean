/- Evidence that is renewed each time while its last stamp is good: plain mathematics. EvidenceKept: evidence that is renewed each time while its last stamp is good proves the value from its first day on. How two integers by value, and a slice of stamps or of breaks, read as arguments. -/
import Derived.Test.YtkihcigojhcmgaaDoorG20
import Derived.Test.YtkihcigojhcmgaaDoorG17
import Derived.Test.YtkihcigojhcmgaaDoorG19
import Derived.Deep.RegionHeld
import Derived.Test.YtkihcigojhcmgaaDoorG18
namespace Go.Proofs.YtkihcigojhcmgaaDoor

/-- Evidence whose stamps were good, each of them on the day of the next one: it proves from day 0 on while the last one is good. -/
def Chain (L : List Stp) (v : List UInt8) (bs : List Brk) (n : Nat) (s : Stp) : Prop :=
  L.length = n + 1 ∧ L[n]? = some s ∧ check L v = true ∧ ∀ k, 0 ≤ k → backAt L bs k s.day (some s.day) n = some 0
theorem chain_start {v : List UInt8} {bs : List Brk} {s : Stp} (hv : valid s = true) (hd : s.day = 0) : start v s = some [sealed [] v s] ∧ Chain [sealed [] v s] v bs 0 (sealed [] v s) := by
  have hc : canNext [] s = true := (canNext_iff _ _).2 ⟨hv, by rw [lastDay_nil]; omega⟩
  refine ⟨by rw [start, next, if_pos hc]; rfl, rfl, rfl, check_next (.inl rfl) hc, fun k _ => ?_⟩
  rw [backAt_zero]
  show some s.day = some 0
  rw [hd]
theorem chain_valid {L : List Stp} {v : List UInt8} {bs : List Brk} {n : Nat} {s : Stp} (h : Chain L v bs n s) : 0 ≤ s.day ∧ s.day ≤ 100000 := by
  obtain ⟨a0, a1, -⟩ := (valid_iff s).1 (check_valid h.2.2.1 h.2.1)
  exact ⟨a0, a1⟩
theorem chain_last {L : List Stp} {v : List UInt8} {bs : List Brk} {n : Nat} {s : Stp} (h : Chain L v bs n s) : lastDay 0 L = s.day := by
  have : L.getLast? = some s := by rw [List.getLast?_eq_getElem?, h.1]; exact h.2.1
  simp [lastDay, this]
theorem zero_known {bs : List Brk} (hb : ∀ b ∈ bs, b.known = 0) {k k' : Int} (hk : 0 ≤ k) (hk' : 0 ≤ k') (s : Stp) (u : Int) : good s bs k u = good s bs k' u :=
  good_known (fun b h => by rw [hb b h]; exact hk) (fun b h => by rw [hb b h]; exact hk')
/-- A further stamp, added while the last one was good. -/
theorem chain_renew {L : List Stp} {v : List UInt8} {bs : List Brk} {n : Nat} {s t : Stp} (h : Chain L v bs n s) (hb : ∀ b ∈ bs, b.known = 0) (hv : valid t = true) (hd : s.day ≤ t.day) (hg : good s bs t.day t.day = true) :
    renew L v t = some (L ++ [sealed L v t]) ∧ Chain (L ++ [sealed L v t]) v bs (n + 1) (sealed L v t) := by
  have hs0 := (chain_valid h).1
  obtain ⟨hn, hs, hc, hk⟩ := h
  have hcan : canNext L t = true := (canNext_iff _ _).2 ⟨hv, by rw [chain_last ⟨hn, hs, hc, hk⟩]; exact hd⟩
  refine ⟨by rw [renew, if_pos hc, next, if_pos hcan], by rw [List.length_append, hn]; rfl, ?_, check_next (.inr hc) hcan, ?_⟩
  · rw [List.getElem?_append_right (by omega), hn, Nat.sub_self]; rfl
  · intro k k0
    have hs2 : (L ++ [sealed L v t])[n]? = some s := by rw [List.getElem?_append_left (by omega)]; exact hs
    have hsd : (sealed L v t).day = t.day := rfl
    rw [backAt_succ hs2, hsd, if_pos (by rw [zero_known hb k0 (by omega : 0 ≤ t.day)]; exact hg), backAt_same (M := L) (by rw [List.take_append_of_le_length (by omega)])]
    exact hk k k0
theorem chain_since {L : List Stp} {v : List UInt8} {bs : List Brk} {n : Nat} {s : Stp} {u : Int} (h : Chain L v bs n s) (hu : s.day ≤ u) (hg : good s bs u u = true) : since L v bs u = some 0 := by
  have h0 := (chain_valid h).1
  obtain ⟨hn, hs, hc, hk⟩ := h
  rw [since_last hc hn hs hu, backAt_succ hs, if_pos hg]
  exact hk u (by omega)
theorem chain_later {L : List Stp} {v : List UInt8} {bs : List Brk} {n : Nat} {s : Stp} {u : Int} (h : Chain L v bs n s) (hu : s.day ≤ u) (hg : good s bs u u = false) : since L v bs u = none := by
  obtain ⟨hn, hs, hc, -⟩ := h
  rw [since_last hc hn hs hu, backAt_succ hs, if_neg (by rw [hg]; simp)]
theorem chain_due {L : List Stp} {v : List UInt8} {bs : List Brk} {n : Nat} {s : Stp} {d : Int} (h : Chain L v bs n s) (hb : ∀ b ∈ bs, b.known = 0) (hd : due L bs s.day = some d) :
    s.day ≤ d ∧ d ≤ 100000 ∧ (∀ u, s.day ≤ u → u ≤ d → good s bs u u = true) ∧ (d = 100000 ∨ good s bs (d + 1) (d + 1) = false) := by
  obtain ⟨h0, h1⟩ := (chain_valid h)
  obtain ⟨hn, hs, -, -⟩ := h
  rw [due_at L n s bs s.day hs hn] at hd
  cases hg : good s bs s.day s.day with
  | false => rw [if_neg (by rw [hg]; simp)] at hd; cases hd
  | true =>
  rw [if_pos ⟨h1, hg⟩] at hd
  injection hd with hd
  obtain ⟨k1, k2, k3, k4⟩ := dueOf_spec h1 hg
  rw [hd] at k1 k2 k3 k4
  refine ⟨k1, k2, ?_, ?_⟩
  · intro u hu hu2
    rw [zero_known hb (by omega : 0 ≤ u) h0]
    exact good_day hu2 k3
  · rcases k4 with k4 | k4
    · exact .inl k4
    · right
      rw [zero_known hb (by omega : 0 ≤ d + 1) h0]
      exact k4
/-- All the statement's last lines say. -/
theorem chain_ends {L : List Stp} {v : List UInt8} {bs : List Brk} {n : Nat} {s : Stp} {d : Int} (h : Chain L v bs n s) (hb : ∀ b ∈ bs, b.known = 0) (hd : due L bs s.day = some d) :
    (∀ u, s.day ≤ u → u ≤ d → since L v bs u = some 0) ∧ (d = 100000 ∨ since L v bs (d + 1) = none) := by
  obtain ⟨k1, k2, k3, k4⟩ := chain_due h hb hd
  refine ⟨fun u hu hu2 => chain_since h hu (k3 u hu hu2), ?_⟩
  rcases k4 with k4 | k4
  · exact .inl k4
  · exact .inr (chain_later h (by omega) k4)
theorem early_zero (bs : List Brk) : ∀ b ∈ bs.map early, b.known = 0 := by
  intro b hb
  obtain ⟨x, -, rfl⟩ := List.mem_map.1 hb
  rfl
theorem popc_less : ∀ p : Fin 8, 2 ≤ popc (255 - 2 ^ p.val) := by decide
/-- A stamp with all witnesses but one. -/
theorem valid_less (day h : Int) (p : Nat) (h0 : 0 ≤ day) (h1 : day ≤ 100000) (h2 : 0 ≤ h) (h3 : h ≤ 7) (hp : p < 8) : valid (bare day h (255 - ((2 ^ p : Nat) : Int))) = true := by
  have hl : 2 ^ p ≤ 128 := by
    have key : ∀ q : Fin 8, 2 ^ q.val ≤ 128 := by decide
    exact key ⟨p, hp⟩
  have hpos : 0 < 2 ^ p := Nat.pos_of_ne_zero (by simp)
  rw [valid_iff]
  refine ⟨h0, h1, h2, h3, ?_, ?_, ?_⟩
  · show (0 : Int) ≤ 255 - ((2 ^ p : Nat) : Int)
    omega
  · show 255 - ((2 ^ p : Nat) : Int) < 256
    omega
  · have e : (255 - ((2 ^ p : Nat) : Int)).toNat = 255 - 2 ^ p := by omega
    show 2 ≤ popc (255 - ((2 ^ p : Nat) : Int)).toNat
    rw [e]
    exact popc_less ⟨p, hp⟩
end Go.Proofs.YtkihcigojhcmgaaDoor

namespace Go.Proofs.YtkihcigojhcmgaaDoor
open Go.RowKit
set_option maxRecDepth 100000

theorem two_bd (p : Nat) (h : p < 8) : 1 ≤ ((2 ^ p : Nat) : Int) ∧ ((2 ^ p : Nat) : Int) ≤ 128 := by
  have key : ∀ q : Fin 8, 1 ≤ 2 ^ q.val ∧ 2 ^ q.val ≤ 128 := by decide
  have := key ⟨p, h⟩
  exact ⟨by exact_mod_cast this.1, by exact_mod_cast this.2⟩
theorem shl_one (p : Nat) (h : p < 8) : IntKind.i64.wrap (2 ^ p) = ((2 ^ p : Nat) : Int) := by
  have key : ∀ p : Fin 8, IntKind.i64.wrap (2 ^ p.val) = ((2 ^ p.val : Nat) : Int) := by decide +kernel
  exact key ⟨p, h⟩
theorem wrap_q (q : Int) (h1 : 1 ≤ q) (h2 : q ≤ 128) : IntKind.i64.wrap (255 - q) = 255 - q := IntWalk.i64_in _ (by omega)
theorem run_min_int (x y : Int) (w : World) : (Builtin.min_ #[3, 3] 3 #[.int .i64 x, .int .i64 y]).run Tryd.prog w = .ok (.int .i64 (min x y)) w := run_min2 _ _ _ _ _
/-- What holds at the head of the second loop. -/
def KeptAt (w : World) (V : List UInt8) (bs : List Brk) (m : Nat) (l d i : Value) (W : World) : Prop := ∃ (j n : Nat) (M : List Stp) (s : Stp) (g c : Nat), j ≤ m ∧ j ≤ 8 ∧ n ≤ j ∧ i = .int .i64 j ∧ d = .int .i64 s.day ∧ l = .slice (some ⟨g, 0, none⟩) (n + 1) c ∧ StS W (some ⟨g, 0, none⟩) M ∧ n + 1 ≤ c ∧ Chain M V bs n s ∧ (due M bs s.day = none → s.day = 0) ∧ Below w.heap.size w W

set_option maxHeartbeats 4000000 in
theorem evKept_any (t : ByteArray) (ay : Option Addr) (cy : Nat) (Y : List Qud) (f0 f1 : Int) (ax : Option Addr) (cx : Nat) (X : List Tri) (ahead : Int) (w : World) (hY : QdS w ay Y) (hky : QudOk Y) (hyl : Y.length ≤ 9223372036854775807) (hf0 : I64 f0)
    (hX : TrS w ax X) (hk : TriOk X) (hxl : X.length ≤ 9223372036854775807) (hah : I64 ahead) (_ht : t.size ≤ 9223372036854775807)
    (hw : RoundAt w) (hg : 0 < w.heap.size) :
    Calls Tryd.prog 4 #[.string t, .slice ay Y.length cy, .agg #[.int .i64 f0, .int .i64 f1], .slice ax X.length cx, .int .i64 ahead] w fun e w' => e = .returned (.bool true) ∧ Below w.heap.size w w' := by
  have HRA : Hid (∀ W, Below w.heap.size w W → RoundAt W ∧ 0 < W.heap.size) := Lib.hid (fun W hb => ⟨hw.below hg hb, Nat.lt_of_lt_of_le hg hb.size⟩)
  obtain ⟨k, V, hmin, hkt, hext, hV, -⟩ := cut60 t
  have hmm : ∀ wx, (Builtin.min_ #[3, 3] 3 #[.int .i64 (t.size : Int), .int .i64 60]).run Tryd.prog wx = .ok (.int .i64 (k : Int)) wx := fun wx => by rw [run_min2, hmin]
  have HX := Lib.hid hX
  have HK := Lib.hid hk
  have HY := Lib.hid hY
  have HKY := Lib.hid hky
  have HF0 := Lib.hid hf0
  have HAH := Lib.hid hah
  obtain ⟨m, hm⟩ : ∃ m, X.length = m := ⟨_, rfl⟩
  obtain ⟨my, hmy⟩ : ∃ my, Y.length = my := ⟨_, rfl⟩
  rw [hm] at hxl ⊢
  rw [hmy] at hyl ⊢
  have HM := Lib.hid hm
  have HMY := Lib.hid hmy
  have k0 : (0 : Int) ≤ (k : Int) := by omega
  have k1 : (k : Int) ≤ (t.size : Int) := by omega
  obtain ⟨w0, hw0⟩ : ∃ w0, w.alloc (.cells #[.int .i64 f0, .int .i64 f1] 46) = w0 := ⟨_, rfl⟩
  have hb0 : Below w.heap.size w w0 := by rw [← hw0]; exact (Below.refl _ _).alloc (Nat.le_refl _) _
  have hblk0 : w0.heap[w.heap.size]? = some (.cells #[.int .i64 f0, .int .i64 f1] 46) := by rw [← hw0]; exact heap_last _ _
  have HB0 := Lib.hid hb0
  have HBK0 := Lib.hid hblk0
  have HSA := Lib.hid (sane_any w0 (HRA.out w0 hb0).1 (HRA.out w0 hb0).2)
  clear hmin hm hmy hX hk hY hky hf0 hah hw hg hblk0 hb0
  go_enter Tryd.func4, Tryd.ntmps4
  go_wp2_with fail
  refine HSA.out.mono ?_
  rintro e w1 ⟨rfl, hb1⟩
  have HB1 := Lib.hid (HB0.out.trans (hb1.mono HB0.out.size))
  have hlt0 : w.heap.size < w0.heap.size := (Array.getElem?_eq_some_iff.1 HBK0.out).1
  have hbk1 := (hb1.block w.heap.size hlt0).trans HBK0.out
  have HBK1 := Lib.hid hbk1
  have hlt1 : w.heap.size < w1.heap.size := Nat.lt_of_lt_of_le hlt0 hb1.size
  have hnot : ¬ ((t.size : Int) < (k : Int)) := by omega
  have HBR := Lib.hid (broken_any ay cy Y w1 (HY.out.below HB1.out) HKY.out (by rw [HMY.out]; exact hyl))
  rw [HMY.out] at HBR
  have hsz1 := HB1.out.size
  clear hb1 HSA HB0 HBK0 hw0 hbk1
  go_wp2_with fail
  refine HBR.out.mono ?_
  rintro e w3 ⟨xb, rfl, hrow3, hb3⟩
  obtain ⟨m3, hm3⟩ : ∃ m3, (brokenOf Y).length = m3 := ⟨_, rfl⟩
  have hm8 : m3 ≤ 8 := by rw [← hm3]; exact brokenOf_len Y
  generalize brokenOf Y = bs at *
  obtain ⟨b3, cp3, h3, hcp3, hBS3⟩ := hrow3.isSlice
  subst h3
  have HB3 := Lib.hid (HB1.out.trans (hb3.mono HB1.out.size))
  have hsz3 := hb3.size
  have HR3 := Lib.hid hrow3
  have HB13 := Lib.hid hb3
  have HM3 := Lib.hid hm3
  have HBK3 := Lib.hid ((hb3.block w.heap.size hlt1).trans HBK1.out)
  rw [hm3] at hcp3 ⊢
  clear hrow3 hb3 hm3 HBR hBS3 HBK1
  go_wp2_with fail
  go_loopw [13] (fun i wx => ∃ j : Nat, j ≤ m3 ∧ i = .int .i64 j ∧ BRow wx w1.heap.size (.slice b3 m3 cp3) (zl j bs) ∧ Below w1.heap.size w1 wx) (fun i _ => m3 - (intOf i).toNat)
  case atStart => exact ⟨0, by omega, rfl, by rw [zl_zero, ← HM3.out]; exact HR3.out, HB13.out⟩
  case round =>
    obtain ⟨j, hj, rfl, hrow, hb⟩ := hrel
    by_cases hlt : j < m3
    · obtain ⟨x, hx⟩ : ∃ x, bs[j]? = some x := ⟨_, List.getElem?_eq_getElem (by rw [HM3.out]; exact hlt)⟩
      have hlen : (zl j bs).length = m3 := by rw [zl_len, HM3.out]
      have HLEN := Lib.hid hlen
      have hrow' : BRow wr w1.heap.size (.slice b3 (zl j bs).length cp3) (zl j bs) := by rw [hlen]; exact hrow
      obtain ⟨g3, cp', hv3, hg3, hgl⟩ := hrow'.form (by rw [hlen]; omega)
      injection hv3 with e1 _ e3
      subst e1 e3
      obtain ⟨av, cv, hv, -, hbs, -⟩ := hrow'.isSlice
      injection hv with e1 _ _
      subst e1
      obtain ⟨gb, go, hgo, -, y0, y1, y2, y3⟩ := hbs j x (zl_at hx)
      injection hgo with hgo
      injection hgo with e1 e2 _
      subst e1 e2
      have hfz := hrow'.cells (j * 4 + 3)
      have hst := hrow'.store j 3 x (early x) (.int .i64 0) (zl_at hx) (by omega) rfl
      rw [zl_set hx, hlen] at hst
      have HST := Lib.hid hst
      have HBB := Lib.hid (hb.setCell (p := ⟨g3, j * 4 + 3, none⟩) hg3 (.int .i64 0))
      rw [Nat.zero_add] at y3
      have n0 : (0 : Int) ≤ (j : Int) := by omega
      have n1 : (j : Int) < (m3 : Int) := by omega
      have hd : decide ((j : Int) < (m3 : Int)) = true := by rw [decide_eq_true_iff]; omega
      have hd2 : decide (j < m3) = true := by rw [decide_eq_true_iff]; omega
      clear hrow hrow' hst hbs hx hlen y0 y1 y2 hb
      go_wp2_with fail
      go_roundw
      case rel => exact ⟨j + 1, by omega, by push_cast; rfl, HST.out, HBB.out⟩
      case measure => simp [intOf]; omega
    · obtain rfl : j = m3 := by omega
      have hzl : zl j bs = bs.map early := by rw [← HM3.out]; exact zl_all bs
      rw [hzl] at hrow
      have hlen : (bs.map early).length = j := by rw [List.length_map, HM3.out]
      have HBS : Hid (BrS wr b3 (bs.map early)) := by
        have hrow' : BRow wr w1.heap.size (.slice b3 (bs.map early).length cp3) (bs.map early) := by rw [hlen]; exact hrow
        obtain ⟨av, cv, hv, -, hbs, -⟩ := hrow'.isSlice
        injection hv with e1 _ _
        rw [e1]; exact hbs
      have HB4 := Lib.hid (HB1.out.trans (hb.mono hsz1))
      have HLEN := Lib.hid hlen
      have HZK := Lib.hid (early_zero bs)
      generalize bs.map early = cs at *
      have hbk4 := (hb.block w.heap.size hlt1).trans ((HB13.out.block w.heap.size hlt1).symm.trans HBK3.out)
      have q0 : wr.cell? ⟨w.heap.size, 0, none⟩ = some (.int .i64 f0) := by rw [Lib.cell_of_heap hbk4]; rfl
      have hlt4 : w.heap.size < wr.heap.size := (Array.getElem?_eq_some_iff.1 hbk4).1
      have hd : decide ((j : Int) < (j : Int)) = false := by simp
      have hd2 : decide (j < j) = false := by simp
      have hp1 := pick_lo (c := f0) (n := 8) (by omega)
      have hp2 := pick_hi (c := f0) (n := 8) (by omega)
      have HP1 := Lib.hid (fun W => pick_any f0 8 W HF0.out (by omega) (by omega))
      generalize pick f0 8 = pf at *
      obtain ⟨hstart, hch0⟩ := chain_start (v := V) (bs := cs) (s := bare 0 pf 255) (valid_full 0 pf (by omega) (by omega) hp1 (by omega)) rfl
      have HCH0 := Lib.hid hch0
      have HSTT := Lib.hid (start_any V 0 pf 255 wr (by omega) (HRA.out wr HB4.out).1 (HRA.out wr HB4.out).2)
      rw [hstart] at HSTT
      have HX4 := Lib.hid (HX.out.below HB4.out)
      clear hrow hzl hlen hb hbk4 hstart hch0 HBK3 HB13 HR3 HM3 HX
      go_wp2_with fail
      refine (HP1.out wr).mono ?_
      rintro e w5 ⟨rfl, rfl⟩
      go_wp2_with fail
      refine HSTT.out.mono ?_
      rintro e w5 ⟨hb5, g5, c5, rfl, hrow5⟩
      have hc5 := hrow5.cap
      have HS5 := Lib.hid hrow5.sts
      simp only [List.length_cons, List.length_nil, Nat.zero_add] at hc5 ⊢
      have HB5 := Lib.hid (HB4.out.trans (hb5.mono HB4.out.size))
      have HBS5 := Lib.hid (HBS.out.below hb5)
      have HX5 := Lib.hid (HX4.out.below hb5)
      have hsz5 := HB5.out.size
      clear hb5 hrow5 HSTT HX4 HBS q0 HP1
      go_wp2_with fail
      go_loopw [14, 16, 17] (fun l d i wx => KeptAt w5 V cs m l d i wx) (fun _ _ i _ => 8 - (intOf i).toNat)
      case atStart => exact ⟨0, 0, _, _, g5, c5, by omega, by omega, by omega, rfl, rfl, rfl, HS5.out, hc5, HCH0.out, fun _ => rfl, Below.refl _ _⟩
      case round =>
        obtain ⟨j1, n, M, s, g, c, hj1, hj8, hnj, rfl, rfl, rfl, hS, hc, hch, hd0, hb⟩ := hrel
        have hML : M.length = n + 1 := hch.1
        obtain ⟨hv0, hv1⟩ := chain_valid hch
        have HMS := Lib.hid hch.2.1
        have HCH := Lib.hid hch
        have HML := Lib.hid hML
        have HS := Lib.hid hS
        have HB6 := Lib.hid (HB5.out.trans (hb.mono hsz5))
        have HBB := Lib.hid hb
        have HBS6 := Lib.hid (HBS5.out.below hb)
        obtain ⟨dd, hdd⟩ : ∃ dd, s.day = dd := ⟨_, rfl⟩
        have HDD := Lib.hid hdd
        have hsz6 := hb.size
        have HDU := Lib.hid (due_any (some ⟨g, 0, none⟩) c M b3 cp3 cs s.day wr HS.out (by omega) HBS6.out (by rw [HLEN.out]; omega) (by omega))
        rw [HLEN.out, HML.out] at HDU
        rw [hdd] at hd0 HDU hv0 hv1 ⊢
        have hn0 : (0 : Int) ≤ (j1 : Int) := by omega
        by_cases hlt : j1 < m ∧ j1 < 8
        · obtain ⟨hlt, hlt8⟩ := hlt
          obtain ⟨p, hp⟩ : ∃ p, X[j1]? = some p := ⟨_, List.getElem?_eq_getElem (by rw [HM.out]; exact hlt)⟩
          obtain ⟨xb, xo, rfl, hxb, x0, x1, x2⟩ := (HX5.out.below hb) j1 p hp
          obtain ⟨kk0, kk1, kk2⟩ := HK.out p (List.mem_of_getElem? hp)
          have K0 := Lib.hid kk0
          have K1 := Lib.hid kk1
          have K2 := Lib.hid kk2
          have n1 : (j1 : Int) < (m : Int) := by omega
          have n2 : (j1 : Int) < 8 := by omega
          have e1 : decide ((j1 : Int) < (m : Int)) = true := by rw [decide_eq_true_iff]; omega
          have e2 : decide (j1 < m) = true := by rw [decide_eq_true_iff]; omega
          have e3 : decide ((j1 : Int) < 8) = true := by rw [decide_eq_true_iff]; omega
          clear hp kk0 kk1 kk2 hML hch hS hdd hb
          obtain ⟨r0, r1, r2⟩ := p
          simp only at x0 x1 x2 K0 K1 K2
          cases hdu : due M cs dd with
          | none =>
            obtain rfl : dd = 0 := hd0 hdu
            rw [hdu] at HDU
            simp only [dayV] at HDU
            clear hdu hd0
            go_wp2_with fail
            refine HDU.out.mono ?_
            rintro e w7 ⟨rfl, hb7⟩
            go_wp2_with fail
            go_ret
            exact ⟨rfl, HB6.out.trans (hb7.mono HB6.out.size)⟩
          | some D =>
            obtain ⟨k1', k2', k3', k4'⟩ := chain_due HCH.out HZK.out (by rw [HDD.out]; exact hdu)
            rw [HDD.out] at k1' k3'
            have HK3 := Lib.hid k3'
            rw [hdu] at HDU
            simp only [dayV] at HDU
            have a1 := pick_lo (c := r0) (n := 60) (by omega)
            have a2 := pick_hi (c := r0) (n := 60) (by omega)
            have HP0 := Lib.hid (fun W => pick_any r0 60 W K0.out (by omega) (by omega))
            generalize pick r0 60 = p0 at *
            have b1 := pick_lo (c := r1) (n := 8) (by omega)
            have b2 := pick_hi (c := r1) (n := 8) (by omega)
            have HP1 := Lib.hid (fun W => pick_any r1 8 W K1.out (by omega) (by omega))
            generalize pick r1 8 = p1 at *
            have c1 := pick_lo (c := r2) (n := 8) (by omega)
            have c2 := pick_hi (c := r2) (n := 8) (by omega)
            have HP2 := Lib.hid (fun W => pick_any r2 8 W K2.out (by omega) (by omega))
            obtain ⟨p2, hp2'⟩ := Int.eq_ofNat_of_zero_le c1
            rw [hp2'] at HP2 c2
            have hp28 : p2 < 8 := by omega
            have p20 : (0 : Int) ≤ (p2 : Int) := by omega
            have hmm2 : ∀ wx, (Builtin.min_ #[3, 3] 3 #[.int .i64 D, .int .i64 (dd + 1 + p0)]).run Tryd.prog wx = .ok (.int .i64 (min D (dd + 1 + p0))) wx := fun wx => run_min_int _ _ wx
            obtain ⟨N0, hN0⟩ : ∃ N0, min D (dd + 1 + p0) = N0 := ⟨_, rfl⟩
            have hN1 : dd ≤ N0 := by omega
            have hN2 : N0 ≤ D := by omega
            rw [hN0] at hmm2
            obtain ⟨q, hq⟩ : ∃ q : Int, q = ((2 ^ p2 : Nat) : Int) := ⟨_, rfl⟩
            have hq1 : 1 ≤ q ∧ q ≤ 128 := by rw [hq]; exact two_bd p2 hp28
            have HSH := Lib.hid (show IntKind.i64.wrap (2 ^ p2) = q by rw [hq]; exact shl_one p2 hp28)
            obtain ⟨hq1, hq2⟩ := hq1
            have HWQ := Lib.hid (wrap_q q hq1 hq2)
            have hval : valid (bare N0 p1 (255 - q)) = true := by rw [hq]; exact valid_less N0 p1 p2 (by omega) (by omega) b1 (by omega) hp28
            obtain ⟨hren, hch2⟩ := chain_renew HCH.out HZK.out hval (by rw [HDD.out]; exact hN1) (HK3.out N0 hN1 hN2)
            have hsd : (sealed M V (bare N0 p1 (255 - q))).day = N0 := rfl
            obtain ⟨M2, hM2⟩ : ∃ M2, M ++ [sealed M V (bare N0 p1 (255 - q))] = M2 := ⟨_, rfl⟩
            rw [hM2] at hren hch2
            generalize sealed M V (bare N0 p1 (255 - q)) = s2 at *
            have HCH2 := Lib.hid hch2
            have HSD2 := Lib.hid hsd
            have HREN := Lib.hid hren
            have HDUE := Lib.hid hdu
            clear hN0 hval hren hch2 hsd hM2 hq hdu hd0 k3' k4' c1 c2 hp2'
            go_wp2_with fail
            refine HDU.out.mono ?_
            rintro e w7 ⟨rfl, hb7⟩
            have HB7 := Lib.hid hb7
            have HB67 := Lib.hid (HB6.out.trans (hb7.mono HB6.out.size))
            have HB57 := Lib.hid (HBB.out.trans (hb7.mono hsz6))
            have HS7 := Lib.hid (HS.out.below hb7)
            have HBS7 := Lib.hid (HBS6.out.below hb7)
            have x0' := (hb7.cell (p := ⟨xb, _, none⟩) hxb).trans x0
            have HX1 := Lib.hid ((hb7.cell (p := ⟨xb, _, none⟩) hxb).trans x1)
            have HX2 := Lib.hid ((hb7.cell (p := ⟨xb, _, none⟩) hxb).trans x2)
            have hxb7 : xb < w7.heap.size := Nat.lt_of_lt_of_le hxb hb7.size
            clear hb7 HDU x0 x1 x2
            go_wp2_with fail
            refine (HP0.out w7).mono ?_
            rintro e w8 ⟨rfl, rfl⟩
            go_upto_region 19 with fail
            have HB7D := Lib.hid (HB67.out.trans ((Below_drewN (Below.refl w7.heap.size w7) 1).mono HB67.out.size))
            have HRN : Hid (Calls Tryd.prog 18 #[.slice (some ⟨g, 0, none⟩) (n + 1) c, .string ⟨V.toArray⟩, .int .i64 N0, .int .i64 p1, .int .i64 (255 - q)] w7.drew fun e w' => Gave w7.drew (some M2) e w') := Lib.hid (by
              have h := renew_any V (some ⟨g, 0, none⟩) c M N0 p1 (255 - q) w7.drew (StS.drew HS7.out) (by rw [HML.out]; omega) (by omega) (HRA.out w7.drew HB7D.out).1 (HRA.out w7.drew HB7D.out).2
              rw [HREN.out, HML.out] at h
              exact h)
            go_cut [21, 22] (fun l e wx => ∃ g9 c9, l = .slice (some ⟨g9, 0, none⟩) M2.length c9 ∧ e = .int .i64 0 ∧ SRow wx w7.heap.size (.slice (some ⟨g9, 0, none⟩) M2.length c9) M2 ∧ Below w7.heap.size w7 wx)
            case first =>
              have y1 := HX1.out
              have y2 := HX2.out
              clear hmm hmm2
              go_region_held (fun w' => w'.cell? ⟨xb, xo + j1 * 3 + 1, none⟩ = some (.int .i64 r1) ∧ w'.cell? ⟨xb, xo + j1 * 3 + 2, none⟩ = some (.int .i64 r2))
                (go_keep)
                ((first
                  | (go_at_call_of 13 (r1); refine (HP1.out _).mono ?_; rintro e w' ⟨rfl, rfl⟩)
                  | (go_at_call_of 13 (r2); refine (HP2.out _).mono ?_; rintro e w' ⟨rfl, rfl⟩)
                  | (go_at_call 18; rw [HSH.out, HWQ.out]; refine HRN.out.mono ?_; rintro e w9 ⟨hb9, g9, c9, rfl, hrow9⟩; have HB9 := Lib.hid hb9; have HR9 := Lib.hid hrow9; have y1' := (hb9.cell (p := ⟨xb, xo + j1 * 3 + 1, none⟩) hxb7).trans y1; have y2' := (hb9.cell (p := ⟨xb, xo + j1 * 3 + 2, none⟩) hxb7).trans y2; clear hb9 hrow9)))
              all_goals
                go_wp2_with fail
                go_meet
                exact ⟨g9, c9, rfl, rfl, HR9.out, (Below_drewN (Below.refl w7.heap.size w7) 1).trans HB9.out⟩
            case rest =>
              obtain ⟨g9, c9, rfl, rfl, hrow9, hb9⟩ := hcut
              have hm2 : M2.length = n + 1 + 1 := HCH2.out.1
              have HM2 := Lib.hid hm2
              have hc9 := hrow9.cap
              have HS9 := Lib.hid hrow9.sts
              have HB9 := Lib.hid (HB67.out.trans (hb9.mono HB67.out.size))
              have HB59 := Lib.hid (HB57.out.trans (hb9.mono HB57.out.size))
              have HBS9 := Lib.hid (HBS7.out.below hb9)
              have HSM9 := Lib.hid (HS7.out.below hb9)
              have HDU2 := Lib.hid (due_any (some ⟨g9, 0, none⟩) c9 M2 b3 cp3 cs N0 wc HS9.out (by rw [HM2.out]; omega) HBS9.out (by rw [HLEN.out]; omega) (by omega))
              rw [HLEN.out, HM2.out] at HDU2
              have hdl : decide (D < dd) = false := by rw [decide_eq_false_iff_not]; omega
              have hsz9 := HB59.out.size
              rw [hm2] at hc9 ⊢
              clear hm2 hrow9 hb9 HRN x0' hmm hmm2
              cases hdu2 : due M2 cs N0 with
              | none =>
                rw [hdu2] at HDU2
                simp only [dayV] at HDU2
                clear hdu2
                go_wp2_with fail
                refine HDU2.out.mono ?_
                rintro e w10 ⟨rfl, hb10⟩
                have HB10 := Lib.hid hb10
                clear hb10 HDU2
                go_wp2_with fail
                go_roundw
                case rel => exact ⟨j1 + 1, n, M, s, g, c, by omega, by omega, by omega, by push_cast; rfl, by rw [HDD.out], rfl, HSM9.out.below HB10.out, hc, HCH.out, (fun h => by rw [HDD.out, HDUE.out] at h; cases h), HB59.out.trans (HB10.out.mono hsz9)⟩
                case measure => simp [intOf]; omega
              | some D2 =>
                rw [hdu2] at HDU2
                simp only [dayV] at HDU2
                have HDU3 := Lib.hid hdu2
                clear hdu2
                go_wp2_with fail
                refine HDU2.out.mono ?_
                rintro e w10 ⟨rfl, hb10⟩
                have HB10 := Lib.hid hb10
                clear hb10 HDU2
                go_wp2_with fail
                go_roundw
                case rel => exact ⟨j1 + 1, n + 1, M2, s2, g9, c9, by omega, by omega, by omega, by push_cast; rfl, by rw [HSD2.out], rfl, HS9.out.below HB10.out, hc9, HCH2.out, (fun h => by rw [HSD2.out, HDU3.out] at h; cases h), HB59.out.trans (HB10.out.mono hsz9)⟩
                case measure => simp [intOf]; omega
        · have hcond : (decide ((j1 : Int) < (m : Int)) = false ∧ decide (j1 < m) = false ∧ ¬ ((j1 : Int) < (m : Int))) ∨ ((j1 : Int) < (m : Int) ∧ decide (j1 < m) = true ∧ decide ((j1 : Int) < 8) = false) := by
            by_cases h : j1 < m
            · right
              exact ⟨by omega, by rw [decide_eq_true_iff]; exact h, by rw [decide_eq_false_iff_not]; omega⟩
            · left
              exact ⟨by rw [decide_eq_false_iff_not]; omega, by rw [decide_eq_false_iff_not]; exact h, by omega⟩
          have HSI : Hid (∀ (u : Int) W, Below wr.heap.size wr W → Calls Tryd.prog 14 #[.slice (some ⟨g, 0, none⟩) (n + 1) c, .string ⟨V.toArray⟩, .slice b3 j cp3, .int .i64 u] W fun e w' => e = .returned (dayV (since M V cs u)) ∧ Below W.heap.size W w') := Lib.hid (by
            intro u W hW
            have hb' := HB6.out.trans (hW.mono HB6.out.size)
            have h := since_any V (some ⟨g, 0, none⟩) c M b3 cp3 cs u W (HS.out.below hW) (by rw [HML.out]; omega) (by rw [HML.out]; exact hc) (by omega) (HBS6.out.below hW) (by rw [HLEN.out]; omega) (HRA.out W hb').1 (HRA.out W hb').2
            rw [HLEN.out, HML.out] at h
            exact h)
          have HEND := Lib.hid (fun D (h : due M cs dd = some D) => chain_ends HCH.out HZK.out (by rw [HDD.out]; exact h))
          have HDUK := Lib.hid (fun D (h : due M cs dd = some D) => chain_due HCH.out HZK.out (by rw [HDD.out]; exact h))
          clear hlt hML hch hS hdd hb
          cases hdu : due M cs dd with
          | none =>
            obtain rfl : dd = 0 := hd0 hdu
            rw [hdu] at HDU
            simp only [dayV] at HDU
            clear hdu hd0
            rcases hcond with ⟨e1, e2, e3⟩ | ⟨e1, e2, e3⟩
            all_goals
              go_wp2_with fail
              refine HDU.out.mono ?_
              rintro e w7 ⟨rfl, hb7⟩
              go_wp2_with fail
              go_ret
              exact ⟨rfl, HB6.out.trans (hb7.mono HB6.out.size)⟩
          | some D =>
            obtain ⟨k1', k2', -, -⟩ := HDUK.out D hdu
            obtain ⟨he1, he2⟩ := HEND.out D hdu
            rw [HDD.out] at k1' he1
            rw [hdu] at HDU
            simp only [dayV] at HDU
            have a1 := pick_lo (c := ahead) (n := 100) (by omega)
            have a2 := pick_hi (c := ahead) (n := 100) (by omega)
            have HP0 := Lib.hid (fun W => pick_any ahead 100 W HAH.out (by omega) (by omega))
            generalize pick ahead 100 = p0 at *
            have hmm2 : ∀ wx, (Builtin.min_ #[3, 3] 3 #[.int .i64 D, .int .i64 (dd + p0)]).run Tryd.prog wx = .ok (.int .i64 (min D (dd + p0))) wx := fun wx => run_min_int _ _ wx
            obtain ⟨N0, hN0⟩ : ∃ N0, min D (dd + p0) = N0 := ⟨_, rfl⟩
            have hN1 : dd ≤ N0 := by omega
            have hN2 : N0 ≤ D := by omega
            rw [hN0] at hmm2
            have HS1 := Lib.hid (HSI.out N0)
            rw [he1 N0 hN1 hN2] at HS1
            simp only [dayV] at HS1
            have HS2 := Lib.hid (HSI.out (D + 1))
            have HE2 := Lib.hid he2
            clear hN0 hdu hd0 he1 he2 HEND HDUK HSI
            by_cases hD : D = 100000
            · subst hD
              obtain ⟨x, ok, hx⟩ : ∃ x ok, dayV (since M V cs (100000 + 1)) = .tuple #[.int .i64 x, .bool ok] := by
                cases since M V cs (100000 + 1) with
                | none => exact ⟨0, false, rfl⟩
                | some x => exact ⟨x, true, rfl⟩
              rw [hx] at HS2
              clear hx HE2
              rcases hcond with ⟨e1, e2, e3⟩ | ⟨e1, e2, e3⟩
              all_goals
                go_wp2_with fail
                refine HDU.out.mono ?_
                rintro e w7 ⟨rfl, hb7⟩
                have HB7 := Lib.hid hb7
                clear hb7
                go_wp2_with fail
                refine (HP0.out w7).mono ?_
                rintro e w8 ⟨rfl, rfl⟩
                go_wp2_with fail
                refine (HS1.out w7 HB7.out).mono ?_
                rintro e w8 ⟨rfl, hb8⟩
                have HB8 := Lib.hid (HB7.out.trans (hb8.mono HB7.out.size))
                clear hb8
                go_wp2_with fail
                refine (HS2.out w8 HB8.out).mono ?_
                rintro e w9 ⟨rfl, hb9⟩
                have HB9 := Lib.hid (HB8.out.trans (hb9.mono HB8.out.size))
                clear hb9
                go_wp2_with fail
                go_ret
                exact ⟨rfl, HB6.out.trans (HB9.out.mono HB6.out.size)⟩
            · have hno : since M V cs (D + 1) = none := by
                rcases HE2.out with h | h
                · exact absurd h hD
                · exact h
              rw [hno] at HS2
              simp only [dayV] at HS2
              have hDb : (D == 100000) = false := beq_eq_false_iff_ne.2 hD
              clear hno HE2 hD
              rcases hcond with ⟨e1, e2, e3⟩ | ⟨e1, e2, e3⟩
              all_goals
                go_wp2_with fail
                refine HDU.out.mono ?_
                rintro e w7 ⟨rfl, hb7⟩
                have HB7 := Lib.hid hb7
                clear hb7
                go_wp2_with fail
                refine (HP0.out w7).mono ?_
                rintro e w8 ⟨rfl, rfl⟩
                go_wp2_with fail
                refine (HS1.out w7 HB7.out).mono ?_
                rintro e w8 ⟨rfl, hb8⟩
                have HB8 := Lib.hid (HB7.out.trans (hb8.mono HB7.out.size))
                clear hb8
                go_wp2_with fail
                refine (HS2.out w8 HB8.out).mono ?_
                rintro e w9 ⟨rfl, hb9⟩
                have HB9 := Lib.hid (HB8.out.trans (hb9.mono HB8.out.size))
                clear hb9
                go_wp2_with fail
                go_ret
                exact ⟨rfl, HB6.out.trans (HB9.out.mono HB6.out.size)⟩
end Go.Proofs.YtkihcigojhcmgaaDoor

namespace Go.Proofs.YtkihcigojhcmgaaDoor
set_option maxRecDepth 100000
open Go.ChangeShapes Go.WideShapes Go.ChangeAt Go.RowKit

/-- Two integers by value. -/
theorem arg_two {H : Type} {enc : TypeId × Value → H} {W : World} {r : Reach} {b0 base : Nat} {sp : Nat → Bool} {held : Bool} {v : Value} {d : DataW H} {p : List MemPlace} (hv : Value.okWide Tryd.prog W r b0 46 v) (h : DataW.Trod enc Tryd.prog W base sp held 46 v d p) :
    ∃ x y : Int, v = .agg #[.int .i64 x, .int .i64 y] ∧ I64 x ∧ I64 y := by
  obtain ⟨cs, rfl, -⟩ := okWide_array Tryd.underlying46 hv
  obtain ⟨f, g⟩ := h
  obtain ⟨zs, h1, h2, h3⟩ := trod_intArr (n := 2) Tryd.underlying46 Tryd.underlying3 (by kernel_rfl) (by kernel_rfl) g
  match zs, h2, h3, h1 with
  | [x, y], _, h3, h1 =>
    refine ⟨x, y, ?_, h3 x (by simp), h3 y (by simp)⟩
    have : cs.toList = [.int .i64 x, .int .i64 y] := by simpa [Value.cells] using h1
    rw [← this]
end Go.Proofs.YtkihcigojhcmgaaDoor
