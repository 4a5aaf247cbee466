/- Encode: the closure that puts numbers into a row of bytes, and Encode itself. -/
import Derived.Test.YthblehinmbgbdaaG25
import Derived.Test.YthblehinmbgbdaaG21
import Derived.Test.YthblehinmbgbdaaG26
import Derived.Lib.AppendStr
import Derived.Lib.OthersKept
namespace Go.Proofs.Ythblehinmbgbdaa
open Go.RowKit
set_option maxRecDepth 100000

/-- A variable in block b that holds a row of bytes that the call owns. -/
def Bx (B b : Nat) (l : List UInt8) (w : World) : Prop := B ≤ b ∧ ∃ v, Boxed w b 47 v ∧ w.ownsRow B 5 1 v l.length (bcs l)
/-- What a call on the variable b keeps. -/
def Kpt (B b : Nat) (w w' : World) : Prop := Below B w w' ∧ Lib.OthersKept 5 (some b) w w'
theorem Kpt.refl (B b : Nat) (w : World) : Kpt B b w w := ⟨Below.refl B w, Lib.OthersKept.refl _ _ w⟩
theorem Kpt.trans {B b : Nat} {x y z : World} (h : Kpt B b x y) (k : Kpt B b y z) : Kpt B b x z := ⟨h.1.trans k.1, h.2.trans k.2⟩
theorem Kpt.mono {B B' b : Nat} {x y : World} (h : Kpt B b x y) (hB : B' ≤ B) : Kpt B' b x y := ⟨h.1.mono hB, h.2⟩
theorem Kpt.of_below {b : Nat} {w w' : World} (h : Below w.heap.size w w') : Kpt w.heap.size b w w' := by
  refine ⟨h, ?_⟩
  intro k x hk hb hx
  rw [h.block k (Array.getElem?_eq_some_iff.1 hk).1]
  exact hk
theorem Bx.below {B b : Nat} {l : List UInt8} {w w' : World} (h : Bx B b l w) (hw : Below w.heap.size w w') : Bx B b l w' := by
  obtain ⟨h1, v, h2, h3⟩ := h
  exact ⟨h1, v, h2.kept (Below.grown0 hw) (by simp), World.ownsRow.kept h3 (Below.grown0 hw) (by cases v.ownBlock <;> simp)⟩
theorem Bx.alloc {B b : Nat} {l : List UInt8} {w : World} (h : Bx B b l w) (o : Obj) : Bx B b l (w.alloc o) := h.below ((Below.refl _ _).alloc (Nat.le_refl _) _)
theorem Bx.new {B : Nat} {w : World} (h : B ≤ w.heap.size) : Bx B w.heap.size [] (w.alloc (.cells #[.slice none 0 0] 47)) := ⟨h, _, Boxed.new _ _ _, World.ownsRow_nil _ _ _ _⟩
theorem row_form {w : World} {B n : Nat} {v : Value} {l : List Value} (h : w.ownsRow B 5 1 v n l) : ∃ a m c, v = .slice a m c := by
  rcases h.2 with ⟨hv, _⟩ | ⟨g, cap, cur, hv, _⟩
  · exact ⟨_, _, _, hv⟩
  · exact ⟨_, _, _, hv⟩
theorem row_kind {w : World} {B n : Nat} {v : Value} {l : List Value} (h : w.ownsRow B 5 1 v n l) : ∀ g, v.ownBlock = some g → ∃ c fz, w.heap[g]? = some (.cells c 5 fz) := by
  intro g hg
  rcases h.2 with ⟨hv, _⟩ | ⟨g', cap, cur, hv, _, hh, _⟩
  · rw [hv] at hg; cases hg
  · rw [hv] at hg
    injection hg with hg
    subst hg
    exact ⟨_, _, hh⟩
theorem infoU8 : (Try.prog.info? 5).map (fun i => (i.zero, i.size, i.bytes)) = some (some (.int .u8 0), 1, 1) := by kernel_rfl
theorem strCells_bcs (t : List UInt8) : Lib.strCells ⟨t.toArray⟩ = bcs t := rfl
def encs (N : List Int) : List UInt8 := (N.map enc).flatten
theorem encs_next {N : List Int} {j : Nat} {x : Int} (h : N[j]? = some x) : encs (N.take (j + 1)) = encs (N.take j) ++ enc x := by
  rw [take_more h]; simp [encs]
theorem encs_len (N : List Int) : (encs N).length ≤ 9 * N.length := by
  induction N with
  | nil => simp [encs]
  | cons x N ih =>
    have := enc_len x
    simp only [encs, List.map_cons, List.flatten_cons, List.length_append, List.length_cons] at *
    omega
set_option maxHeartbeats 2000000 in
theorem put_any (B b g : Nat) (cs : Array Value) (fz : Nat × Nat) (l : List UInt8) (N : List Int) (n c : Nat) (w : World) (h : Bx B b l w) (hg : w.heap[g]? = some (.cells cs 3 fz)) (hcs : ∀ (j : Nat) (x : Int), N[j]? = some x → cs[j]? = some (.int .i64 x))
    (hN : N.length = n) (hI : ∀ x ∈ N, I62 x) (hlen : l.length ≤ 1000000) (hBw : B ≤ w.heap.size) (hn : n ≤ 10) :
    Calls Try.prog 42 #[.slice (some ⟨g, 0, none⟩) n c, .pointer (some ⟨b, 0, none⟩)] w fun e w' => e = .returned (.tuple #[]) ∧ Bx B b (l ++ encs N) w' ∧ Kpt B b w w' := by
  obtain ⟨i0, hi, hz0, hz1, hz2⟩ := info_parts infoU8
  have HI0 := Lib.hid hi
  have HZ := Lib.hid (And.intro hz0 (And.intro hz1 hz2))
  have HS := Lib.hid h
  have hgb : g ≠ b := by
    rintro rfl
    obtain ⟨-, v, hv, -⟩ := h
    rw [show w.heap[g]? = _ from hv] at hg
    injection hg with hg
    injection hg with _ ht _
    exact absurd ht (by decide)
  have HG := Lib.hid hg
  have HCS := Lib.hid hcs
  have HN := Lib.hid hN
  have HI := Lib.hid hI
  have HGB : Hid (some g ≠ some b) := Lib.hid (by simpa using hgb)
  have HLN := Lib.hid hlen
  have HBW := Lib.hid hBw
  clear h hg hcs hN hI hgb hi hz0 hz1 hz2 hlen hBw
  go_enter Try.func42, Try.ntmps42
  go_wp2_with fail
  go_loopw [9] (fun i wx => ∃ j : Nat, j ≤ n ∧ i = .int .i64 j ∧ Bx B b (l ++ encs (N.take j)) wx ∧ Kpt B b w wx) (fun i _ => n - (intOf i).toNat)
  case atStart => exact ⟨0, by omega, rfl, by simpa [encs] using HS.out, Kpt.refl _ _ _⟩
  case round =>
    obtain ⟨j, hj, rfl, hs, hk⟩ := hrel
    have HBX := Lib.hid hs
    have HK := Lib.hid hk
    clear hs hk
    by_cases hlt : j < n
    · obtain ⟨x, hx⟩ : ∃ x, N[j]? = some x := ⟨_, List.getElem?_eq_getElem (by rw [HN.out]; exact hlt)⟩
      have HX := Lib.hid (HI.out x (List.mem_of_getElem? hx))
      have HE := Lib.hid (encs_next hx)
      have hgr := HK.out.2 g _ HG.out HGB.out (by intro c' fz' he; injection he with _ ht _; exact absurd ht (by decide))
      have hcell : wr.cell? ⟨g, j, none⟩ = some (.int .i64 x) := by rw [Lib.cell_of_heap hgr]; exact HCS.out j x hx
      have hle := encs_len (N.take j)
      rw [List.length_take] at hle
      have HLE : Hid ((l ++ encs (N.take j)).length ≤ 1000090) := Lib.hid (by rw [List.length_append]; have := HLN.out; omega)
      have n0 : (0 : Int) ≤ (j : Int) := by omega
      have n1 : (j : Int) < (n : Int) := by omega
      have hd : decide ((j : Int) < (n : Int)) = true := by rw [decide_eq_true_iff]; omega
      have hd2 : decide (j < n) = true := by rw [decide_eq_true_iff]; omega
      clear hx hgr hle
      go_wp2_with fail
      refine (putInt_any x wr HX.out.1 HX.out.2).mono ?_
      rintro e w1 ⟨rfl, hb1⟩
      obtain ⟨hBb, v, hv, hown⟩ := HBX.out.below hb1
      have HK1 := Lib.hid (HK.out.trans ((Kpt.of_below hb1).mono (Nat.le_trans HBW.out HK.out.1.size)))
      obtain ⟨av, mv, cv, rfl⟩ := row_form hown
      have c0 := hv.cell
      have HV := Lib.hid hv
      have HOWN := Lib.hid hown
      have HEL := Lib.hid (enc_len x)
      have HBB := Lib.hid hBb
      clear hb1 hv hown hBb hcell
      go_wp2_with (at_builtin; refine Lib.wpList_append_own_string _ rfl _ _ 47 9 rfl B 5 i0 Try.underlying47 Try.underlying9 HI0.out HZ.out.1 HZ.out.2.1 HZ.out.2.2 _ _ _ rfl HOWN.out ⟨(enc x).toArray⟩ rfl (by have h1 := HEL.out; have h2 := HLE.out; unfold maxLen; simp only [ByteArray.size, List.size_toArray]; omega) (by have h1 := HEL.out; have h2 := HLE.out; simp only [ByteArray.size, List.size_toArray]; omega) (Nat.le_trans HBW.out HK1.out.1.size) ?_; intro v' w2 hown2 hgrow2 _; have hv2 := HV.out.kept hgrow2 (HV.out.not_row (by decide) HOWN.out); obtain ⟨a2, m2, c2, rfl⟩ := row_form hown2; have HO2 := Lib.hid hown2; have HG2 := Lib.hid hgrow2; have HV2 := Lib.hid hv2; have c1 := hv2.cell; have f1 := hv2.frozen; clear hown2 hgrow2 hv2)
      have hrow := ownsRow_setBox HO2.out HV2.out (by decide) (.slice a2 m2 c2)
      refine ⟨⟨j + 1, by omega, by push_cast; rfl, ⟨HBB.out, _, HV2.out.set _, ?_⟩, ?_⟩, by simp [intOf]; omega⟩
      · rw [HE.out, ← List.append_assoc, bcs_append, List.length_append]
        rw [strCells_bcs] at hrow
        exact hrow
      · refine HK1.out.trans ⟨?_, ?_⟩
        · exact ((Below.refl _ _).grown HG2.out (Nat.le_trans HBW.out HK1.out.1.size) (fun k hk => (World.ownsRow.lt HOWN.out k hk).1)).setCell (p := ⟨b, 0, none⟩) HBB.out _
        · refine ((Lib.OthersKept.refl _ _ _).grown HG2.out (row_kind HOWN.out)).setCell ⟨b, 0, none⟩ rfl _
    · obtain rfl : j = n := by omega
      have hd : decide ((j : Int) < (j : Int)) = false := by simp
      have hd2 : decide (j < j) = false := by simp
      go_wp2_with fail
      go_end0
      exact ⟨rfl, by rw [← List.take_of_length_le (l := N) (i := j) (by rw [HN.out]; exact Nat.le_refl _)]; exact HBX.out, HK.out⟩

theorem Kpt.alloc {B b : Nat} {w w' : World} (h : Kpt B b w w') (hB : B ≤ w'.heap.size) (o : Obj) : Kpt B b w (w'.alloc o) := ⟨h.1.alloc hB o, h.2.alloc o⟩
theorem encs_four (a b c d : Int) : encs [a, b, c, d] = enc a ++ enc b ++ enc c ++ enc d := by simp [encs]
theorem encs_one (a : Int) : encs [a] = enc a := by simp [encs]
theorem get4 {a b c d : Int} (j : Nat) (x : Int) (h : [a, b, c, d][j]? = some x) : #[Value.int .i64 a, .int .i64 b, .int .i64 c, .int .i64 d][j]? = some (.int .i64 x) := by
  match j, h with
  | 0, h => simp at h; subst h; rfl
  | 1, h => simp at h; subst h; rfl
  | 2, h => simp at h; subst h; rfl
  | 3, h => simp at h; subst h; rfl
theorem get1 {a : Int} (j : Nat) (x : Int) (h : [a][j]? = some x) : #[Value.int .i64 a][j]? = some (.int .i64 x) := by
  match j, h with
  | 0, h => simp at h; subst h; rfl
def encV (r : List UInt8 × Int) : Value := .tuple #[.string ⟨r.1.toArray⟩, .int .i64 r.2]
set_option maxHeartbeats 2000000 in
theorem encode_any (a : Option Addr) (c : Nat) (L : List Ev) (w : World) (hS : EvS w a L) (hL : L.length ≤ 1000) :
    Calls Try.prog 25 #[.slice a L.length c] w fun e w' => e = .returned (encV (encodeR L)) ∧ Below w.heap.size w w' := by
  have HVP := Lib.hid (validP_any a c L w hS hL)
  cases hv : validP L with
  | false =>
    rw [hv] at HVP
    have HR : Hid (encV (encodeR L) = .tuple #[.string ⟨#[]⟩, .int .i64 130]) := Lib.hid (by rw [encodeR, hv]; rfl)
    rw [HR.out]
    clear hv HR
    generalize L.length = n at *
    clear hS hL
    go_enter Try.func25, Try.ntmps25
    go_wp2_with fail
    refine HVP.out.mono ?_
    rintro e w1 ⟨rfl, hb⟩
    have HB := Lib.hid hb
    clear hb
    go_wp2_with fail
    go_ret2
    exact ⟨rfl, HB.out⟩
  | true =>
    rw [hv] at HVP
    have HR : Hid (encV (encodeR L) = .tuple #[.string ⟨(encE L).toArray⟩, .int .i64 0]) := Lib.hid (by rw [encodeR, hv]; rfl)
    rw [HR.out]
    obtain ⟨n, hn⟩ : ∃ n, L.length = n := ⟨_, rfl⟩
    have HN := Lib.hid hn
    have HS := Lib.hid hS
    have HV := Lib.hid hv
    rw [hn] at hL HVP ⊢
    have HEE : Hid (enc n ++ encFrom 0 (L.take n) = encE L) := Lib.hid (by rw [List.take_of_length_le (by omega), encE, hn])
    clear hn hS hv HR
    go_enter Try.func25, Try.ntmps25
    go_wp2_with fail
    refine HVP.out.mono ?_
    rintro e w1 ⟨rfl, hb⟩
    have HB := Lib.hid hb
    have HBX0 : Hid (Bx w.heap.size w1.heap.size [] (w1.alloc (.cells #[.slice none 0 0] 47))) := Lib.hid (Bx.new hb.size)
    clear hb HVP
    go_wp2_with fail
    obtain ⟨b, hbs⟩ : ∃ b, w1.heap.size = b := ⟨_, rfl⟩
    have HWB : Hid (w.heap.size ≤ b) := Lib.hid (by rw [← hbs]; exact HB.out.size)
    refine (put_any w.heap.size w1.heap.size (w1.heap.size + 1) #[.int .i64 n] (0, 0) [] [(n : Int)] 1 1 _ (HBX0.out.alloc _) (heap_last' _ _ (size_alloc _ _)) get1 rfl (by intro x hx; rw [List.mem_singleton] at hx; subst hx; exact ⟨by omega, by omega⟩) (by simp) (by simp only [size_alloc]; have := HB.out.size; omega) (by omega)).mono ?_
    rintro e w2 ⟨rfl, hbx, hk⟩
    have HBX := Lib.hid (show Bx w.heap.size b (enc n) w2 by rw [← hbs]; simpa [encs_one] using hbx)
    have HK := Lib.hid (show Below w.heap.size w w2 from ((HB.out.alloc HB.out.size _).alloc (by simp only [size_alloc]; have := HB.out.size; omega) _).trans hk.1)
    rw [hbs]
    clear hbx hk hbs
    go_wp2_with fail
    go_loopw [6, 20] (fun t i wx => ∃ j : Nat, j ≤ n ∧ i = .int .i64 j ∧ t = .int .i64 (lastT 0 (L.take j)) ∧ Bx w.heap.size b (enc n ++ encFrom 0 (L.take j)) wx ∧ Below w.heap.size w wx) (fun _ i _ => n - (intOf i).toNat)
    case atStart => exact ⟨0, by omega, rfl, rfl, by simpa [encFrom] using HBX.out, HK.out⟩
    case round =>
      clear HBX HK HBX0
      obtain ⟨j, hj, rfl, rfl, hs, hk⟩ := hrel
      have HBX := Lib.hid hs
      have HK := Lib.hid hk
      clear hs hk
      by_cases hlt : j < n
      · obtain ⟨e, he⟩ : ∃ e, L[j]? = some e := ⟨_, List.getElem?_eq_getElem (by rw [HN.out]; exact hlt)⟩
        obtain ⟨bl, o, rfl, hbl, x0, x1, x2, x3⟩ := (HS.out.below HK.out) j e he
        have HOK := Lib.hid (okE_iff.1 ((validP_iff.1 HV.out).2.2 e (List.mem_of_getElem? he)))
        have HGAP := Lib.hid (gap_ok HV.out he)
        have HTK := Lib.hid (pairs_take he)
        have HLE : Hid ((enc n ++ encFrom 0 (L.take j)).length ≤ 100000) := Lib.hid (by
          have h1 := enc_len n
          have h2 := encFrom_length (L.take j) 0
          rw [List.length_take] at h2
          rw [List.length_append]
          omega)
        obtain ⟨lt, hlt2⟩ : ∃ lt, lastT 0 (L.take j) = lt := ⟨_, rfl⟩
        have HLT := Lib.hid hlt2
        obtain ⟨d, hd0⟩ : ∃ d, e.tm - lt = d := ⟨_, rfl⟩
        have HD : Hid (e.tm - lt = d ∧ I62 d) := Lib.hid ⟨hd0, by have := HGAP.out; rw [hlt2] at this; unfold I62; omega⟩
        have hwr : IntKind.i64.wrap (e.tm - lt) = d := by
          have := HD.out.2
          unfold I62 at this
          rw [hd0, IntKind.wrap_i64]; omega
        rw [hlt2]
        have n0 : (0 : Int) ≤ (j : Int) := by omega
        have n1 : (j : Int) < (n : Int) := by omega
        have hd : decide ((j : Int) < (n : Int)) = true := by rw [decide_eq_true_iff]; omega
        have hd2 : decide (j < n) = true := by rw [decide_eq_true_iff]; omega
        clear he hlt2 hd0 hbl
        go_wp2_with fail
        refine (put_any w.heap.size b (wr.heap.size + 1) #[.int .i64 d, .int .i64 e.kd, .int .i64 e.a, .int .i64 e.b] (0, 0) (enc n ++ encFrom 0 (L.take j)) [d, e.kd, e.a, e.b] 4 4 _ ((HBX.out.alloc _).alloc _) (heap_last' _ _ (size_alloc _ _)) get4 rfl (by
          have h1 := HOK.out
          intro x hx
          simp only [List.mem_cons, List.not_mem_nil, or_false] at hx
          rcases hx with rfl | rfl | rfl | rfl
          · exact HD.out.2
          · exact ⟨by omega, by omega⟩
          · exact ⟨by omega, by omega⟩
          · exact ⟨by omega, by omega⟩) (Nat.le_trans HLE.out (by omega)) (by simp only [size_alloc]; have := HK.out.size; omega) (by omega)).mono ?_
        rintro z w3 ⟨rfl, hbx, hk⟩
        have hev := hk.2 wr.heap.size (.cells #[.int .i64 e.tm, .int .i64 e.kd, .int .i64 e.a, .int .i64 e.b] 52 (0, 0)) (heap_prev' _ _ _ rfl) (by
          have := HBX.out.2
          obtain ⟨v, hv, -⟩ := this
          have := hv.lt
          simp; omega) (by intro c' fz' he; injection he with _ ht _; exact absurd ht (by decide))
        have hct : w3.cell? ⟨wr.heap.size, 0, none⟩ = some (.int .i64 e.tm) := by rw [Lib.cell_of_heap hev]; rfl
        have HBX2 : Hid (Bx w.heap.size b (enc n ++ encFrom 0 (L.take (j + 1))) w3) := Lib.hid (by
          rw [HTK.out, encFrom_snoc, HLT.out, HD.out.1]
          rw [encs_four] at hbx
          simpa only [List.append_assoc] using hbx)
        have HK2 := Lib.hid (show Below w.heap.size w w3 from ((HK.out.alloc HK.out.size _).alloc (by simp only [size_alloc]; have := HK.out.size; omega) _).trans hk.1)
        have HLT2 : Hid (lastT 0 (L.take (j + 1)) = e.tm) := Lib.hid (by rw [HTK.out, lastT_snoc])
        clear hbx hk hev
        go_wp2_with fail
        exact ⟨⟨j + 1, by omega, by push_cast; rfl, by rw [HLT2.out], HBX2.out, HK2.out⟩, by simp [intOf]; omega⟩
      · obtain rfl : j = n := by omega
        have hd : decide ((j : Int) < (j : Int)) = false := by simp
        have hd2 : decide (j < j) = false := by simp
        obtain ⟨-, v, hv, hrow⟩ := HBX.out
        have hc := hv.cell
        have hcv := convert_owned (P := Try.prog) (src := 47) (dst := 9) Try.underlying47 Try.underlying5 Try.underlying9 hrow
        rw [HEE.out] at hcv
        clear hv hrow
        go_wp2_with fail
        go_ret2
        exact ⟨rfl, HK.out⟩
end Go.Proofs.Ythblehinmbgbdaa
