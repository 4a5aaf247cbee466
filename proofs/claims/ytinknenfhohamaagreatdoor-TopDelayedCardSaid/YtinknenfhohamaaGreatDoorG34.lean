/- Perform of the program that waits for keys and copies them. -/
import Derived.Test.YtinknenfhohamaaGreatDoorG33
import Derived.Test.YtinknenfhohamaaGreatDoorG30
import Derived.Lib.BufferWrite
import Derived.WalkSpells
namespace Go.Proofs.YtinknenfhohamaaGreatDoor
open Go.RowKit
set_option maxRecDepth 100000

def echoS : ByteArray := ⟨#[11, 0, 9, 0, 12, 20, 2, 20, 6, 19, 3, 20, 8, 0, 0, 0, 0, 0, 0, 1]⟩
theorem valid12_any (w : World) : Calls Tryz.prog 14 #[.string { data := #[11, 0, 9, 0, 12, 20, 2, 20, 6, 19, 3, 20, 8, 0, 0, 0, 0, 0, 0, 1] }, .string { data := #[] }] w fun e w' => e = .returned (.bool true) ∧ w = w' := by
  go_enter Tryz.func14, Tryz.ntmps14
  go_wp2_with fail
  go_ret
  exact ⟨rfl, rfl⟩
theorem areKeys_any (a : Option Addr) (c : Nat) (L : List Ev) (w : World) (hS : EvS w a L) (hL : L.length ≤ 64) (hk : ∀ e ∈ L, KeyOk e) (hA : AscK L) :
    Calls Tryz.prog 15 #[.slice a L.length c] w fun e w' => e = .returned (.bool true) ∧ Below w.heap.size w w' := by
  have HC := Lib.hid (containsWrong_any a c L w hS hL hk)
  have HS := Lib.hid (fun (W : World) (h : EvS W a L) => sorted_any a c L W h hL hk hA)
  have HE := Lib.hid hS
  obtain ⟨m, hm⟩ : ∃ m, L.length = m := ⟨_, rfl⟩
  rw [hm] at HC HS hL ⊢
  have hd : decide ((m : Int) ≤ 100) = true := by rw [decide_eq_true_iff]; omega
  have hd2 : decide (m ≤ 100) = true := by rw [decide_eq_true_iff]; omega
  clear hS hk hA hm
  go_enter Tryz.func15, Tryz.ntmps15
  go_wp2_with fail
  refine HC.out.mono ?_
  rintro e w1 ⟨rfl, hb⟩
  have HB := Lib.hid hb
  clear hb
  go_wp2_with fail
  refine (HS.out w1 (HE.out.below HB.out)).mono ?_
  rintro e w2 ⟨rfl, hb⟩
  have HB2 := Lib.hid (HB.out.trans (hb.mono HB.out.size))
  clear hb
  go_wp2_with fail
  go_ret
  exact ⟨rfl, HB2.out⟩
theorem clone_nil (w : World) : Calls Tryz.prog 16 #[.slice none 0 0] w fun e w' => e = .returned (.slice none 0 0) ∧ w = w' := by
  have hn := Lib.run_eql_slice_nil (P := Tryz.prog) w 24 28 none 0 0 0 0 Tryz.underlying24
  go_enter Tryz.func16, Tryz.ntmps16
  go_wp2_with fail
  go_ret
  exact ⟨rfl, rfl⟩
theorem clone_some (xb xo c : Nat) (L : List Ev) (w : World) (hS : EvS w (some ⟨xb, xo, none⟩) L) (hL : L.length ≤ 64) (h0 : 0 < L.length) :
    Calls Tryz.prog 16 #[.slice (some ⟨xb, xo, none⟩) L.length c] w fun e w' => ∃ g cap, e = .returned (.slice (some ⟨g, 0, none⟩) L.length cap) ∧ ERow w' w.heap.size (.slice (some ⟨g, 0, none⟩) L.length cap) L ∧ Below w.heap.size w w' := by
  obtain ⟨m, hm⟩ : ∃ m, L.length = m := ⟨_, rfl⟩
  have hn := Lib.run_eql_slice_nil (P := Tryz.prog) w 24 28 (some ⟨xb, xo, none⟩) m c 0 0 Tryz.underlying24
  obtain ⟨w1, hw1⟩ : ∃ w1, w.alloc (.cells #[] 28) = w1 := ⟨_, rfl⟩
  have HB1 := Lib.hid (show Below w.heap.size w w1 by rw [← hw1]; exact (Below.refl _ _).alloc (Nat.le_refl _) _)
  have HE := Lib.hid (show ERow w1 w.heap.size (.slice (some ⟨w.heap.size, 0, none⟩) 0 0) [] by rw [← hw1]; exact ERow.empty (heap_last _ _) (Nat.le_refl _))
  have HS1 := Lib.hid (hS.below HB1.out)
  have HM := Lib.hid hm
  rw [hm] at hL h0 ⊢
  clear hS hm
  go_enter Tryz.func16, Tryz.ntmps16
  go_wp2_with (at_builtin; refine append_events rfl _ _ rfl (by rfl) (base := w.heap.size) (L := []) (X := L) (M := [] ++ L) HE.out HB1.out.size (by simp) (by rfl) HS1.out HM.out h0 (by omega) rfl ?_; intro g' c' w5 hrow5 hb5 hg5 _)
  have HR5 := Lib.hid hrow5
  have HB5 := Lib.hid (HB1.out.trans hb5)
  clear hrow5 hb5 hg5
  go_wp2_with fail
  go_ret
  have hm := HM.out
  exact ⟨g', c', by rw [← hm]; rfl, by have h := HR5.out; rw [← hm]; exact h, HB5.out⟩
theorem ERow.cap {W : World} {base : Nat} {a : Option Addr} {n c : Nat} {L : List Ev} (h : ERow W base (.slice a n c) L) : c ≤ 9223372036854775807 := by
  rcases h.2 with ⟨h2, -⟩ | ⟨g, cap, cur, h1, -, -, -, h5, -⟩
  · injection h2 with _ _ h3
    omega
  · injection h1 with _ _ h3
    subst h3
    unfold maxLen at h5
    omega
/-- What Clone gives: keys below its own heap's end. -/
theorem clone_any (ak : Option Addr) (c : Nat) (L : List Ev) (w : World) (hS : EvS w ak L) (hL : L.length ≤ 64) (hnil : L = [] → ak = none ∧ c = 0) :
    Calls Tryz.prog 16 #[.slice ak L.length c] w fun e w' => ∃ ak' cc, e = .returned (.slice ak' L.length cc) ∧ EvS w' ak' L ∧ L.length ≤ cc ∧ cc ≤ 9223372036854775807 ∧ (∀ x, ak' = some x → x.block < w'.heap.size) ∧ Below w.heap.size w w' := by
  cases L with
  | nil =>
    obtain ⟨rfl, rfl⟩ := hnil rfl
    refine (clone_nil w).mono ?_
    rintro e w' ⟨rfl, rfl⟩
    exact ⟨none, 0, rfl, EvS.nil _ _, Nat.le_refl _, by omega, fun x h => (by cases h), Below.refl _ _⟩
  | cons k ks =>
    obtain ⟨xb, xo, rfl, -, -⟩ := hS 0 k rfl
    refine (clone_some xb xo c (k :: ks) w hS hL (by simp)).mono ?_
    rintro e w' ⟨g, cap, rfl, hr, hb⟩
    obtain ⟨a1, c1, h1, h2, h3, -⟩ := hr.isSlice
    injection h1 with e1 e2 e3
    subst e1 e3
    refine ⟨_, _, rfl, h3, h2, hr.cap, fun x h => ?_, hb⟩
    cases h
    exact (World.ownsRow.lt hr g rfl).2
theorem run_any (b : Nat) (M : Nat) (w : World) : Calls Tryz.prog 18 #[.pointer (some ⟨b, 0, none⟩), .int .i64 (M : Int)] w fun e w' => e = .returned (.func (.func 44) #[] #[.pointer (some ⟨w.heap.size, 0, none⟩), .pointer (some ⟨w.heap.size + 1, 0, none⟩)]) ∧ w' = (w.alloc (.cells #[.pointer (some ⟨b, 0, none⟩)] 56)).alloc (.cells #[.int .i64 (M : Int)] 3) := by
  go_enter Tryz.func18, Tryz.ntmps18
  go_wp2_with fail
  go_ret
  exact ⟨by simp, rfl⟩
theorem setRow_below (w : World) (g : Nat) (cs : Array Value) : Below g w (w.setRow g cs) := ⟨rfl, rfl, rfl, by simp, fun k hk => setRow_other w g k cs (by omega)⟩
/-- A processor as Perform lays it. -/
def procL (v : Value) (mem : List Value) : List Value := v :: (mem ++ (List.replicate 256 (.int .u8 0) ++ [.int .u8 0, .int .u8 0, .int .i64 0]))
theorem proc_f {v : Value} {mem : List Value} {n : Int} (hm : mem.length = 256) (h : ∀ j, j < 256 → mem[j]? = some (.int .u8 (memF n j))) : ∀ i, i < 516 → (procL v mem)[i]? = some (procF v n 0 0 0 i) := by
  intro i hi
  unfold procL procF
  rcases i with _ | i
  · rfl
  · rw [List.getElem?_cons_succ, if_neg (by omega)]
    by_cases h1 : i < 256
    · rw [List.getElem?_append_left (by omega), if_pos (by omega), h i h1]; rfl
    · rw [List.getElem?_append_right (by omega), hm, if_neg (by omega)]
      by_cases h2 : i < 512
      · rw [List.getElem?_append_left (by simp; omega), if_pos (by omega), List.getElem?_replicate, if_pos (by omega)]
      · rw [List.getElem?_append_right (by simp; omega), if_neg (by omega), List.length_replicate]
        have : i = 512 ∨ i = 513 ∨ i = 514 := by omega
        rcases this with rfl | rfl | rfl <;> rfl
def echoM : List Value := (echoL ++ List.replicate 236 0).map (Value.int .u8)
theorem echoM_f : ∀ j, j < 256 → echoM[j]? = some (.int .u8 (memF 0 j)) := by
  intro j hj
  unfold echoM memF
  rw [List.getElem?_map]
  by_cases h : j < 20
  · rw [List.getElem?_append_left (by simp [echoL]; omega), if_neg (by omega), List.getD_eq_getElem?_getD, List.getElem?_eq_getElem (by simp [echoL]; omega)]; rfl
  · rw [List.getElem?_append_right (by simp [echoL]; omega), List.getElem?_replicate, if_pos (by simp [echoL]; omega)]
    by_cases h20 : j = 20
    · simp [h20]
    · rw [if_neg h20, List.getD_eq_getElem?_getD, List.getElem?_eq_none (by simp [echoL]; omega)]; rfl
theorem zero_proc (v : Value) : Tryz.zeroCells61.setIfInBounds 0 v = (procL v (List.replicate 256 (.int .u8 0))).toArray := by kernel_rfl
theorem procL_length (v : Value) : (procL v (List.replicate 256 (.int .u8 0))).length = 516 := by simp [procL]
theorem copy_proc (v : Value) : ((procL v (List.replicate 256 (.int .u8 0))).toArray.toList.take 1 ++ Lib.byteCells echoS.data.toList ++ (procL v (List.replicate 256 (.int .u8 0))).toArray.toList.drop (1 + echoS.size)).toArray = (procL v echoM).toArray := by kernel_rfl
theorem copy_run (v : Value) (b : Nat) (w : World) (h : w.heap[b]? = some (.cells (procL v (List.replicate 256 (.int .u8 0))).toArray 61 (0, 0))) :
    (Builtin.copy_ #[62, 9] 3 #[.slice (some ⟨b, 1, none⟩) 256 256, .string { data := #[11, 0, 9, 0, 12, 20, 2, 20, 6, 19, 3, 20, 8, 0, 0, 0, 0, 0, 0, 1] }]).run Tryz.prog w = .ok (.int .i64 20) (w.setRow b (procL v echoM).toArray) := by
  have hl := procL_length v
  have h1 := Lib.run_copy_row_string (P := Tryz.prog) w 62 9 3 5 b 1 256 256 echoS _ _ Tryz.underlying62 (by kernel_rfl) h (by decide) (by rw [List.size_toArray, hl]; decide)
  rw [copy_proc] at h1
  exact h1
end Go.Proofs.YtinknenfhohamaaGreatDoor
