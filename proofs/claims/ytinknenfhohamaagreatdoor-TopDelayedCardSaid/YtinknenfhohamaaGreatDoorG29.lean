/- The keyboard. The operations without an event, as the computer calls them. The table of operations. -/
import Derived.Test.YtinknenfhohamaaGreatDoorG28
import Derived.Deep.RegionWith
namespace Go.Proofs.YtinknenfhohamaaGreatDoor
open Go.RowKit
set_option maxRecDepth 100000

theorem take_none (b : Nat) (f : Nat → Value) (ak : Option Addr) (c : Nat) (t : Int) (W : World) (hp : PrB W b f) (h0 : f 0 = .slice ak 0 c) :
    Calls Tryz.prog 108 #[.pointer (some ⟨b, 0, none⟩), .int .i64 t] W fun e w' => e = .returned (.int .u8 0) ∧ W = w' := by
  have h5 : W.cell? ⟨b, 0, none⟩ = some (.slice ak 0 c) := by rw [hp.cell 0 (by omega), h0]
  clear hp h0
  go_enter Tryz.func108, Tryz.ntmps108
  go_wp2_with fail
  go_ret
  exact ⟨rfl, rfl⟩
theorem take_late (b : Nat) (f : Nat → Value) (kb ko n c : Nat) (t tm : Int) (W : World) (hp : PrB W b f) (h0 : f 0 = .slice (some ⟨kb, ko, none⟩) (n + 1) c) (hk : W.cell? ⟨kb, ko, none⟩ = some (.int .i64 tm)) (ht : t < tm) :
    Calls Tryz.prog 108 #[.pointer (some ⟨b, 0, none⟩), .int .i64 t] W fun e w' => e = .returned (.int .u8 0) ∧ W = w' := by
  have h5 : W.cell? ⟨b, 0, none⟩ = some (.slice (some ⟨kb, ko, none⟩) (n + 1) c) := by rw [hp.cell 0 (by omega), h0]
  have hd : ((n : Int) + 1 == 0) = false := by rw [beq_eq_false_iff_ne]; omega
  have hd2 : (n + 1 == 0) = false := rfl
  have ht2 : decide (t < tm) = true := by rw [decide_eq_true_iff]; exact ht
  clear hp h0 ht
  go_enter Tryz.func108, Tryz.ntmps108
  go_wp2_with fail
  go_ret
  exact ⟨rfl, rfl⟩
theorem take_yes (b : Nat) (f : Nat → Value) (kb ko n c : Nat) (t tm a : Int) (W : World) (hp : PrB W b f) (h0 : f 0 = .slice (some ⟨kb, ko, none⟩) (n + 1) c) (hk : W.cell? ⟨kb, ko, none⟩ = some (.int .i64 tm)) (hk2 : W.cell? ⟨kb, ko + 2, none⟩ = some (.int .i64 a)) (ht : tm ≤ t) (ha : 1 ≤ a ∧ a ≤ 255) (hn : n ≤ 1000) (hc : 1 < c) (_hc1 : n + 1 ≤ c) (hc2 : c ≤ 9223372036854775807) :
    Calls Tryz.prog 108 #[.pointer (some ⟨b, 0, none⟩), .int .i64 t] W fun e w' => e = .returned (.int .u8 a) ∧ w' = W.setCell ⟨b, 0, none⟩ (.slice (some ⟨kb, ko + 4, none⟩) n (c - 1)) := by
  have h5 : W.cell? ⟨b, 0, none⟩ = some (.slice (some ⟨kb, ko, none⟩) (n + 1) c) := by rw [hp.cell 0 (by omega), h0]
  have h6 := hp.free 0
  have hd : ((n : Int) + 1 == 0) = false := by rw [beq_eq_false_iff_ne]; omega
  have hd2 : (n + 1 == 0) = false := rfl
  have ht2 : decide (t < tm) = false := by rw [decide_eq_false_iff_not]; omega
  clear hp h0 ht
  go_enter Tryz.func108, Tryz.ntmps108
  go_wp2_with fail
  go_ret
  exact ⟨rfl, rfl⟩
theorem take_last (b : Nat) (f : Nat → Value) (kb ko : Nat) (t tm a : Int) (W : World) (hp : PrB W b f) (h0 : f 0 = .slice (some ⟨kb, ko, none⟩) 1 1) (hk : W.cell? ⟨kb, ko, none⟩ = some (.int .i64 tm)) (hk2 : W.cell? ⟨kb, ko + 2, none⟩ = some (.int .i64 a)) (ht : tm ≤ t) (ha : 1 ≤ a ∧ a ≤ 255) :
    Calls Tryz.prog 108 #[.pointer (some ⟨b, 0, none⟩), .int .i64 t] W fun e w' => e = .returned (.int .u8 a) ∧ w' = W.setCell ⟨b, 0, none⟩ (.slice (some ⟨kb, ko, none⟩) 0 0) := by
  have h5 : W.cell? ⟨b, 0, none⟩ = some (.slice (some ⟨kb, ko, none⟩) 1 1) := by rw [hp.cell 0 (by omega), h0]
  have h6 := hp.free 0
  have ht2 : decide (t < tm) = false := by rw [decide_eq_false_iff_not]; omega
  clear hp h0 ht
  go_enter Tryz.func108, Tryz.ntmps108
  go_wp2_with fail
  go_ret
  exact ⟨rfl, rfl⟩
/-- What take gives, and what it leaves of the keys. -/
def TakeOk (W : World) (f : Nat → Value) (t : Int) (v0 : Value) (a : Int) : Prop :=
  (∃ ak c, f 0 = .slice ak 0 c ∧ v0 = f 0 ∧ a = 0) ∨
  (∃ kb ko n c tm, f 0 = .slice (some ⟨kb, ko, none⟩) (n + 1) c ∧ W.cell? ⟨kb, ko, none⟩ = some (.int .i64 tm) ∧ t < tm ∧ v0 = f 0 ∧ a = 0) ∨
  (∃ kb ko n c tm, f 0 = .slice (some ⟨kb, ko, none⟩) (n + 1) c ∧ W.cell? ⟨kb, ko, none⟩ = some (.int .i64 tm) ∧ W.cell? ⟨kb, ko + 2, none⟩ = some (.int .i64 a) ∧ tm ≤ t ∧ (1 ≤ a ∧ a ≤ 255) ∧ n ≤ 1000 ∧ 1 < c ∧ n + 1 ≤ c ∧ c ≤ 9223372036854775807 ∧ v0 = .slice (some ⟨kb, ko + 4, none⟩) n (c - 1)) ∨
  (∃ kb ko tm, f 0 = .slice (some ⟨kb, ko, none⟩) 1 1 ∧ W.cell? ⟨kb, ko, none⟩ = some (.int .i64 tm) ∧ W.cell? ⟨kb, ko + 2, none⟩ = some (.int .i64 a) ∧ tm ≤ t ∧ (1 ≤ a ∧ a ≤ 255) ∧ v0 = .slice (some ⟨kb, ko, none⟩) 0 0)
def TakePost (W : World) (b : Nat) (f : Nat → Value) (v0 : Value) (a : Int) (e : Ending) (w' : World) : Prop := e = .returned (.int .u8 a) ∧ PrB w' b (updF f 0 v0) ∧ Own b W w'
theorem updF_self (f : Nat → Value) (i : Nat) : updF f i (f i) = f := by
  funext j
  unfold updF
  split
  · rename_i h; rw [h]
  · rfl
theorem take_any (b : Nat) (f : Nat → Value) (t a : Int) (v0 : Value) (W : World) (hp : PrB W b f) (h : TakeOk W f t v0 a) :
    Calls Tryz.prog 108 #[.pointer (some ⟨b, 0, none⟩), .int .i64 t] W (TakePost W b f v0 a) := by
  rcases h with ⟨ak, c, h0, rfl, rfl⟩ | ⟨kb, ko, n, c, tm, h0, h1, h2, rfl, rfl⟩ | ⟨kb, ko, n, c, tm, h0, h1, h2, h3, h4, h5, h6, h7, h8, rfl⟩ | ⟨kb, ko, tm, h0, h1, h2, h3, h4, rfl⟩
  · refine (take_none b f ak c t W hp h0).mono ?_
    rintro e w' ⟨rfl, rfl⟩
    exact ⟨rfl, by rw [updF_self]; exact hp, Own.refl hp⟩
  · refine (take_late b f kb ko n c t tm W hp h0 h1 h2).mono ?_
    rintro e w' ⟨rfl, rfl⟩
    exact ⟨rfl, by rw [updF_self]; exact hp, Own.refl hp⟩
  · refine (take_yes b f kb ko n c t tm a W hp h0 h1 h2 h3 h4 h5 h6 h7 h8).mono ?_
    rintro e w' ⟨rfl, rfl⟩
    exact ⟨rfl, hp.set 0 _, Own.set hp 0 _⟩
  · refine (take_last b f kb ko t tm a W hp h0 h1 h2 h3 h4).mono ?_
    rintro e w' ⟨rfl, rfl⟩
    exact ⟨rfl, hp.set 0 _, Own.set hp 0 _⟩
/-- KEY. -/
def KeyPost (W : World) (b : Nat) (f : Nat → Value) (v0 : Value) (a : Int) (e : Ending) (w' : World) : Prop := e = .returned (.tuple #[]) ∧ PrB w' b (updF (updF f 0 v0) 513 (.int .u8 a)) ∧ Own b W w'
theorem KeyPost.mk {W w1 w' : World} {b : Nat} {f : Nat → Value} {v0 : Value} {a : Int} (hp : PrB w1 b (updF f 0 v0)) (ho : Own b W w1) (h : w' = w1.setCell ⟨b, 513, none⟩ (.int .u8 a)) : KeyPost W b f v0 a (.returned (.tuple #[])) w' := by
  subst h
  exact ⟨rfl, hp.set 513 _, ho.trans (Own.set hp 513 _)⟩
theorem key_any (b : Nat) (f : Nat → Value) (n m a0 t a : Int) (v0 : Value) (W : World) (hp : PrB W b f) (ha : f 513 = .int .u8 a0) (ht : f 515 = .int .i64 t) (hk : TakeOk W f t v0 a) :
    Calls Tryz.prog 107 #[.pointer (some ⟨b, 0, none⟩), .int .u8 n, .int .u8 m] W (KeyPost W b f v0 a) := by
  have h5 : W.cell? ⟨b, 515, none⟩ = some (.int .i64 t) := by rw [hp.cell 515 (by omega), ht]
  have HT := Lib.hid (take_any b f t a v0 W.drew hp.drew hk)
  have HP := Lib.hid hp
  clear hp hk
  go_enter Tryz.func107, Tryz.ntmps107
  go_region_with (go_at_call 108; refine HT.out.mono ?_; rintro e w1 ⟨rfl, hp1, ho1⟩; have g5 : w1.cell? ⟨b, 513, none⟩ = some (.int .u8 a0) := (by rw [hp1.cell 513 (by omega), updF_other _ _ (by omega), ha]); have g6 := hp1.free 513; have HP1 := Lib.hid hp1; have HO1 := Lib.hid ho1; clear hp1 ho1)
  all_goals
    go_wp2_with fail
    exact bodyPost_end (results_none rfl _ _ _) rfl (KeyPost.mk HP1.out ((Own.refl HP.out).drew.trans HO1.out) rfl)
/-- TXT. -/
theorem text_any (b : Nat) (f : Nat → Value) (n m a t : Int) (W : World) (hp : PrB W b f) (ha : f 513 = .int .u8 a) (ht : f 515 = .int .i64 t) (h0 : 0 ≤ a ∧ a ≤ 255) (hm : 0 ≤ m ∧ m ≤ 255) :
    Calls Tryz.prog 109 #[.pointer (some ⟨b, 0, none⟩), .int .u8 n, .int .u8 m] W fun e w' => e = .returned (.pointer (some ⟨W.heap.size, 0, none⟩)) ∧ w' = W.alloc (.cells #[.int .i64 t, .int .i64 1, .int .i64 (m % 80), .int .i64 a] 28) := by
  have h5 : W.cell? ⟨b, 513, none⟩ = some (.int .u8 a) := by rw [hp.cell 513 (by omega), ha]
  have HE := Lib.hid (event_any b f 1 (m % 80) a t W hp ht (by omega) h0)
  clear hp ha ht
  go_enter Tryz.func109, Tryz.ntmps109
  go_wp2_with fail
  refine HE.out.mono ?_
  rintro e w' ⟨rfl, rfl⟩
  go_wp2_with fail
  go_ret
  exact ⟨rfl, rfl⟩
/-- The operations without an event, as they are called. -/
theorem quiet_2 (b q : Nat) (f : Nat → Value) (n m a : Int) (W : World) (hp : PrB W b f) (ha : f 513 = .int .u8 a) (hq : W.heap[q]? = some (.cells #[.func (.func 97) #[] #[]] 157 (0, 0))) :
    Calls Tryz.prog 149 #[.pointer (some ⟨b, 0, none⟩), .int .u8 n, .int .u8 m, .pointer (some ⟨q, 0, none⟩)] W fun e w' => e = .returned (.pointer none) ∧ PrB w' b (updF f 513 (.int .u8 m)) ∧ Own b W w' := by
  have h8 : W.cell? ⟨q, 0, none⟩ = some (.func (.func 97) #[] #[]) := cell_of_one hq
  have HC := Lib.hid (op2_any b f n m a W hp ha)
  clear hp ha hq
  go_enter Tryz.func149, Tryz.ntmps149
  go_wp2_with fail
  refine HC.out.mono ?_
  rintro e w' ⟨rfl, hp', ho'⟩
  have HP' := Lib.hid (And.intro hp' ho')
  clear hp' ho'
  go_wp2_with fail
  go_ret
  exact ⟨rfl, HP'.out⟩
end Go.Proofs.YtinknenfhohamaaGreatDoor

namespace Go.Proofs.YtinknenfhohamaaGreatDoor
open Go.RowKit
set_option maxRecDepth 100000

theorem quiet_3 (b q : Nat) (f : Nat → Value) (m a x : Int) (k : Nat) (W : World) (hp : PrB W b f) (ha : f 513 = .int .u8 a) (hk : k < 256) (hx : f (1 + k) = .int .u8 x) (hq : W.heap[q]? = some (.cells #[.func (.func 98) #[] #[]] 157 (0, 0))) :
    Calls Tryz.prog 149 #[.pointer (some ⟨b, 0, none⟩), .int .u8 k, .int .u8 m, .pointer (some ⟨q, 0, none⟩)] W fun e w' => e = .returned (.pointer none) ∧ PrB w' b (updF f (1 + k) (.int .u8 a)) ∧ Own b W w' := by
  have h8 : W.cell? ⟨q, 0, none⟩ = some (.func (.func 98) #[] #[]) := cell_of_one hq
  have HC := Lib.hid (op3_any b f k m a x k W hp ha rfl hk hx)
  clear hp ha hk hx hq
  go_enter Tryz.func149, Tryz.ntmps149
  go_wp2_with fail
  refine HC.out.mono ?_
  rintro e w' ⟨rfl, hp', ho'⟩
  have HP' := Lib.hid (And.intro hp' ho')
  clear hp' ho'
  go_wp2_with fail
  go_ret
  exact ⟨rfl, HP'.out⟩
theorem quiet_6 (b q : Nat) (f : Nat → Value) (n m a s : Int) (W : World) (hp : PrB W b f) (ha : f 513 = .int .u8 a) (hs : IntKind.u8.wrap (a + m) = s) (hq : W.heap[q]? = some (.cells #[.func (.func 101) #[] #[]] 157 (0, 0))) :
    Calls Tryz.prog 149 #[.pointer (some ⟨b, 0, none⟩), .int .u8 n, .int .u8 m, .pointer (some ⟨q, 0, none⟩)] W fun e w' => e = .returned (.pointer none) ∧ PrB w' b (updF f 513 (.int .u8 s)) ∧ Own b W w' := by
  have h8 : W.cell? ⟨q, 0, none⟩ = some (.func (.func 101) #[] #[]) := cell_of_one hq
  have HC := Lib.hid (op6_any b f n m a s W hp ha hs)
  clear hp ha hs hq
  go_enter Tryz.func149, Tryz.ntmps149
  go_wp2_with fail
  refine HC.out.mono ?_
  rintro e w' ⟨rfl, hp', ho'⟩
  have HP' := Lib.hid (And.intro hp' ho')
  clear hp' ho'
  go_wp2_with fail
  go_ret
  exact ⟨rfl, HP'.out⟩
theorem quiet_8 (b q q2 : Nat) (f : Nat → Value) (n m a c : Int) (W : World) (hp : PrB W b f) (ha : f 513 = .int .u8 a) (hc : f 514 = .int .u8 c) (hp2 : W.heap[q2]? = some (.cells #[.func (.func 104) #[] #[]] 159 (0, 0))) (hq : W.heap[q]? = some (.cells #[.func (.func 150) #[] #[.pointer (some ⟨q2, 0, none⟩)]] 157 (0, 0))) :
    Calls Tryz.prog 149 #[.pointer (some ⟨b, 0, none⟩), .int .u8 n, .int .u8 m, .pointer (some ⟨q, 0, none⟩)] W fun e w' => e = .returned (.pointer none) ∧ PrB w' b (updF f 514 (.int .u8 n)) ∧ Own b W w' := by
  have h8 : W.cell? ⟨q, 0, none⟩ = some (.func (.func 150) #[] #[.pointer (some ⟨q2, 0, none⟩)]) := cell_of_one hq
  have HC := Lib.hid (jump8_any b q2 f n m a c W hp ha hc hp2)
  clear hp ha hc hp2 hq
  go_enter Tryz.func149, Tryz.ntmps149
  go_wp2_with fail
  refine HC.out.mono ?_
  rintro e w' ⟨rfl, hp', ho'⟩
  have HP' := Lib.hid (And.intro hp' ho')
  clear hp' ho'
  go_wp2_with fail
  go_ret
  exact ⟨rfl, HP'.out⟩
theorem quiet_9y (b q q2 : Nat) (f : Nat → Value) (n m c : Int) (W : World) (hp : PrB W b f) (ha : f 513 = .int .u8 0) (hc : f 514 = .int .u8 c) (hp2 : W.heap[q2]? = some (.cells #[.func (.func 105) #[] #[]] 159 (0, 0))) (hq : W.heap[q]? = some (.cells #[.func (.func 150) #[] #[.pointer (some ⟨q2, 0, none⟩)]] 157 (0, 0))) :
    Calls Tryz.prog 149 #[.pointer (some ⟨b, 0, none⟩), .int .u8 n, .int .u8 m, .pointer (some ⟨q, 0, none⟩)] W fun e w' => e = .returned (.pointer none) ∧ PrB w' b (updF f 514 (.int .u8 n)) ∧ Own b W w' := by
  have h8 : W.cell? ⟨q, 0, none⟩ = some (.func (.func 150) #[] #[.pointer (some ⟨q2, 0, none⟩)]) := cell_of_one hq
  have HC := Lib.hid (jump9_yes b q2 f n m c W hp ha hc hp2)
  clear hp ha hc hp2 hq
  go_enter Tryz.func149, Tryz.ntmps149
  go_wp2_with fail
  refine HC.out.mono ?_
  rintro e w' ⟨rfl, hp', ho'⟩
  have HP' := Lib.hid (And.intro hp' ho')
  clear hp' ho'
  go_wp2_with fail
  go_ret
  exact ⟨rfl, HP'.out⟩
theorem quiet_9n (b q q2 : Nat) (f : Nat → Value) (n m a : Int) (W : World) (hp : PrB W b f) (ha : f 513 = .int .u8 a) (h0 : a ≠ 0) (hp2 : W.heap[q2]? = some (.cells #[.func (.func 105) #[] #[]] 159 (0, 0))) (hq : W.heap[q]? = some (.cells #[.func (.func 150) #[] #[.pointer (some ⟨q2, 0, none⟩)]] 157 (0, 0))) :
    Calls Tryz.prog 149 #[.pointer (some ⟨b, 0, none⟩), .int .u8 n, .int .u8 m, .pointer (some ⟨q, 0, none⟩)] W fun e w' => e = .returned (.pointer none) ∧ PrB w' b (f) ∧ Own b W w' := by
  have h8 : W.cell? ⟨q, 0, none⟩ = some (.func (.func 150) #[] #[.pointer (some ⟨q2, 0, none⟩)]) := cell_of_one hq
  have HC := Lib.hid (jump9_no b q2 f n m a W hp ha h0 hp2)
  clear hp ha h0 hp2 hq
  go_enter Tryz.func149, Tryz.ntmps149
  go_wp2_with fail
  refine HC.out.mono ?_
  rintro e w' ⟨rfl, hp', ho'⟩
  have HP' := Lib.hid (And.intro hp' ho')
  clear hp' ho'
  go_wp2_with fail
  go_ret
  exact ⟨rfl, HP'.out⟩
theorem quiet_11 (b q : Nat) (f : Nat → Value) (n m a0 t a : Int) (v0 : Value) (W : World) (hp : PrB W b f) (ha : f 513 = .int .u8 a0) (ht : f 515 = .int .i64 t) (hk : TakeOk W f t v0 a) (hq : W.heap[q]? = some (.cells #[.func (.func 107) #[] #[]] 157 (0, 0))) :
    Calls Tryz.prog 149 #[.pointer (some ⟨b, 0, none⟩), .int .u8 n, .int .u8 m, .pointer (some ⟨q, 0, none⟩)] W fun e w' => e = .returned (.pointer none) ∧ PrB w' b (updF (updF f 0 v0) 513 (.int .u8 a)) ∧ Own b W w' := by
  have h8 : W.cell? ⟨q, 0, none⟩ = some (.func (.func 107) #[] #[]) := cell_of_one hq
  have HC := Lib.hid (key_any b f n m a0 t a v0 W hp ha ht hk)
  clear hp ha ht hk hq
  go_enter Tryz.func149, Tryz.ntmps149
  go_wp2_with fail
  refine HC.out.mono ?_
  rintro e w' ⟨rfl, hp', ho'⟩
  have HP' := Lib.hid (And.intro hp' ho')
  clear hp' ho'
  go_wp2_with fail
  go_ret
  exact ⟨rfl, HP'.out⟩
end Go.Proofs.YtinknenfhohamaaGreatDoor

namespace Go.Proofs.YtinknenfhohamaaGreatDoor
open Go.RowKit
set_option maxRecDepth 100000

theorem quiet_new (g : Nat) (bs : Array Value) (W : World) : Calls Tryz.prog 95 #[.func (.func g) #[] bs] W fun e w' => e = .returned (.func (.func 149) #[] #[.pointer (some ⟨W.heap.size, 0, none⟩)]) ∧ w' = W.alloc (.cells #[.func (.func g) #[] bs] 157) := by
  go_enter Tryz.func95, Tryz.ntmps95
  go_wp2_with fail
  go_ret
  exact ⟨rfl, rfl⟩
theorem jump_new (g : Nat) (W : World) : Calls Tryz.prog 103 #[.func (.func g) #[] #[]] W fun e w' => e = .returned (.func (.func 149) #[] #[.pointer (some ⟨W.heap.size + 1, 0, none⟩)]) ∧ w' = (W.alloc (.cells #[.func (.func g) #[] #[]] 159)).alloc (.cells #[.func (.func 150) #[] #[.pointer (some ⟨W.heap.size, 0, none⟩)]] 157) := by
  go_enter Tryz.func103, Tryz.ntmps103
  go_wp2_with fail
  refine (quiet_new _ _ _).mono ?_
  rintro e w' ⟨rfl, rfl⟩
  go_wp2_with fail
  go_ret
  exact ⟨by simp, rfl⟩
/-- Several blocks laid, one behind the other. -/
def allocs : World → List Obj → World
  | W, [] => W
  | W, o :: l => allocs (W.alloc o) l
theorem allocs_below : ∀ (l : List Obj) (W : World), Below W.heap.size W (allocs W l)
  | [], W => Below.refl _ W
  | o :: l, W => ((Below.refl _ W).alloc (Nat.le_refl _) o).trans ((allocs_below l (W.alloc o)).mono (by rw [size_alloc]; omega))
theorem allocs_heap : ∀ (l : List Obj) (W : World) (j : Nat) (o : Obj), l[j]? = some o → (allocs W l).heap[W.heap.size + j]? = some o
  | [], W, j, o, h => by simp at h
  | x :: l, W, 0, o, h => by
    simp at h
    subst h
    exact ((allocs_below l (W.alloc x)).block W.heap.size (by rw [size_alloc]; omega)).trans (heap_last W x)
  | x :: l, W, j + 1, o, h => by
    have := allocs_heap l (W.alloc x) j o (by simpa using h)
    rw [size_alloc] at this
    rw [show W.heap.size + (j + 1) = W.heap.size + 1 + j by omega]
    exact this
def cloV (p : Nat) : Value := .func (.func 149) #[] #[.pointer (some ⟨p, 0, none⟩)]
/-- The table of operations and what its entries have captured. -/
structure OpsIn (W : World) (gs p2 p3 p6 p8 q8 p9 q9 p11 : Nat) : Prop where
  sl : ∃ cs : Array Value, W.heap[gs]? = some (.cells cs 124 (0, 0)) ∧ cs[2]? = some (cloV p2) ∧ cs[3]? = some (cloV p3) ∧ cs[6]? = some (cloV p6) ∧ cs[8]? = some (cloV p8) ∧ cs[9]? = some (cloV p9) ∧ cs[11]? = some (cloV p11) ∧ cs[12]? = some (.func (.func 109) #[] #[])
  b2 : W.heap[p2]? = some (.cells #[.func (.func 97) #[] #[]] 157 (0, 0))
  b3 : W.heap[p3]? = some (.cells #[.func (.func 98) #[] #[]] 157 (0, 0))
  b6 : W.heap[p6]? = some (.cells #[.func (.func 101) #[] #[]] 157 (0, 0))
  b8 : W.heap[p8]? = some (.cells #[.func (.func 150) #[] #[.pointer (some ⟨q8, 0, none⟩)]] 157 (0, 0))
  d8 : W.heap[q8]? = some (.cells #[.func (.func 104) #[] #[]] 159 (0, 0))
  b9 : W.heap[p9]? = some (.cells #[.func (.func 150) #[] #[.pointer (some ⟨q9, 0, none⟩)]] 157 (0, 0))
  d9 : W.heap[q9]? = some (.cells #[.func (.func 105) #[] #[]] 159 (0, 0))
  b11 : W.heap[p11]? = some (.cells #[.func (.func 107) #[] #[]] 157 (0, 0))
def OpsAt (W : World) (gs : Nat) : Prop := ∃ p2 p3 p6 p8 q8 p9 q9 p11, OpsIn W gs p2 p3 p6 p8 q8 p9 q9 p11
/-- Blocks that neither events nor a processor nor a slice of events lie in. -/
def FarT (t : TypeId) : Prop := t ≠ 61 ∧ t ≠ 28 ∧ t ≠ 24
def farTB (t : Nat) : Bool := t != 61 && t != 28 && t != 24
theorem farT_of {t : TypeId} (h : farTB t = true) : FarT t := by
  unfold farTB at h
  simp at h
  exact ⟨h.1.1, h.1.2, h.2⟩
theorem OpsIn.kept {W W' : World} {gs p2 p3 p6 p8 q8 p9 q9 p11 : Nat} (h : OpsIn W gs p2 p3 p6 p8 q8 p9 q9 p11) (hk : ∀ (k : Nat) (cs : Array Value) (t : TypeId), W.heap[k]? = some (.cells cs t (0, 0)) → FarT t → W'.heap[k]? = some (.cells cs t (0, 0))) : OpsIn W' gs p2 p3 p6 p8 q8 p9 q9 p11 := by
  obtain ⟨⟨cs, h1, h2⟩, h3, h4, h5, h6, h7, h8, h9, h10⟩ := h
  exact ⟨⟨cs, hk _ _ _ h1 (farT_of (by decide)), h2⟩, hk _ _ _ h3 (farT_of (by decide)), hk _ _ _ h4 (farT_of (by decide)), hk _ _ _ h5 (farT_of (by decide)), hk _ _ _ h6 (farT_of (by decide)), hk _ _ _ h7 (farT_of (by decide)), hk _ _ _ h8 (farT_of (by decide)), hk _ _ _ h9 (farT_of (by decide)), hk _ _ _ h10 (farT_of (by decide))⟩
/-- The blocks that operations lays. -/
def opsL (B : Nat) : List Obj := [
  Obj.cells #[.func (.func 96) #[] #[]] 157,
  Obj.cells #[.func (.func 97) #[] #[]] 157,
  Obj.cells #[.func (.func 98) #[] #[]] 157,
  Obj.cells #[.func (.func 99) #[] #[]] 157,
  Obj.cells #[.func (.func 100) #[] #[]] 157,
  Obj.cells #[.func (.func 101) #[] #[]] 157,
  Obj.cells #[.func (.func 102) #[] #[]] 157,
  Obj.cells #[.func (.func 104) #[] #[]] 159,
  Obj.cells #[.func (.func 150) #[] #[.pointer (some ⟨B + 7, 0, none⟩)]] 157,
  Obj.cells #[.func (.func 105) #[] #[]] 159,
  Obj.cells #[.func (.func 150) #[] #[.pointer (some ⟨B + 9, 0, none⟩)]] 157,
  Obj.cells #[.func (.func 106) #[] #[]] 159,
  Obj.cells #[.func (.func 150) #[] #[.pointer (some ⟨B + 11, 0, none⟩)]] 157,
  Obj.cells #[.func (.func 107) #[] #[]] 157,
  Obj.cells #[.func (.func 111) #[] #[]] 157,
  Obj.cells #[.func (.func 113) #[] #[]] 157,
  Obj.cells #[Value.nilFunc, cloV (B + 0), cloV (B + 1), cloV (B + 2), cloV (B + 3), cloV (B + 4), cloV (B + 5), cloV (B + 6), cloV (B + 8), cloV (B + 10), cloV (B + 12), cloV (B + 13), .func (.func 109) #[] #[], .func (.func 110) #[] #[], cloV (B + 14), .func (.func 112) #[] #[], cloV (B + 15)] 124]
theorem ops_at (W : World) : OpsAt (allocs W (opsL W.heap.size)) (W.heap.size + 16) :=
  ⟨W.heap.size + 1, W.heap.size + 2, W.heap.size + 5, W.heap.size + 8, W.heap.size + 7, W.heap.size + 10, W.heap.size + 9, W.heap.size + 13,
    ⟨⟨_, allocs_heap _ W 16 _ rfl, rfl, rfl, rfl, rfl, rfl, rfl, rfl⟩, allocs_heap _ W 1 _ rfl, allocs_heap _ W 2 _ rfl, allocs_heap _ W 5 _ rfl, allocs_heap _ W 8 _ rfl, allocs_heap _ W 7 _ rfl, allocs_heap _ W 10 _ rfl, allocs_heap _ W 9 _ rfl, allocs_heap _ W 13 _ rfl⟩⟩
set_option maxHeartbeats 4000000 in
theorem operations_any (W : World) : Calls Tryz.prog 45 #[] W fun e w' => ∃ gs : Nat, e = .returned (.slice (some ⟨gs, 0, none⟩) 17 17) ∧ OpsAt w' gs ∧ W.heap.size ≤ gs ∧ Below W.heap.size W w' := by
  have HQ := Lib.hid (fun g bs X => quiet_new g bs X)
  have HJ := Lib.hid (fun g X => jump_new g X)
  go_enter Tryz.func45, Tryz.ntmps45
  go_wp2_with (first | (go_at_call 95; refine (HQ.out _ _ _).mono ?_; rintro e w' ⟨rfl, rfl⟩) | (go_at_call 103; refine (HJ.out _ _).mono ?_; rintro e w' ⟨rfl, rfl⟩))
  go_ret
  exact ⟨W.heap.size + 16, rfl, ops_at W, by omega, allocs_below (opsL W.heap.size) W⟩
end Go.Proofs.YtinknenfhohamaaGreatDoor
