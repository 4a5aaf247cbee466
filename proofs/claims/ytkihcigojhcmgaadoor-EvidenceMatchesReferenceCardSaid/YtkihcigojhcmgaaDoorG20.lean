/- Evidence with the same last value is for the same value and has the same stamps, or two different strings have the same digest: plain mathematics. Breaks that become known later, further breaks, and a further stamp: plain mathematics. Evidence with one thing wrong is none: plain mathematics. -/
import Derived.Test.YtkihcigojhcmgaaDoorG16
import Derived.Test.YtkihcigojhcmgaaDoorG19
namespace Go.Proofs.YtkihcigojhcmgaaDoor

theorem enc_split {m n : Int} {r t : List UInt8} (hm0 : -4611686018427387903 ≤ m) (hm1 : m ≤ 4611686018427387903) (hn0 : -4611686018427387903 ≤ n) (hn1 : n ≤ 4611686018427387903) (h : enc m ++ r = enc n ++ t) : m = n ∧ r = t := by
  have := enc_inj hm0 hm1 hn0 hn1 h
  subst this
  exact ⟨rfl, List.append_cancel_left h⟩
theorem encS_split {a b r t : List UInt8} (ha : a.length ≤ 65536) (hb : b.length ≤ 65536) (h : encS a ++ r = encS b ++ t) : a = b ∧ r = t := by
  unfold encS at h
  rw [List.append_assoc, List.append_assoc] at h
  obtain ⟨h1, h2⟩ := enc_split (by omega) (by omega) (by omega) (by omega) h
  exact List.append_inj h2 (by omega)
theorem stp_ext {s t : Stp} (h1 : s.day = t.day) (h2 : s.hash = t.hash) (h3 : s.wit = t.wit) (h4 : s.val = t.val) : s = t := by
  cases s
  cases t
  simp only at h1 h2 h3 h4
  subst h1 h2 h3 h4
  rfl
/-- A stamp whose numbers can be encoded. -/
def lean (s : Stp) : Prop := valid s = true ∧ s.val.length ≤ 65536
theorem nums_split {s t : Stp} {r q : List UInt8} (hs : valid s = true) (ht : valid t = true) (h : nums s ++ r = nums t ++ q) : (s.day = t.day ∧ s.hash = t.hash ∧ s.wit = t.wit) ∧ r = q := by
  obtain ⟨a1, a2, a3, a4, a5, a6, -⟩ := (valid_iff s).1 hs
  obtain ⟨b1, b2, b3, b4, b5, b6, -⟩ := (valid_iff t).1 ht
  unfold nums at h
  simp only [List.append_assoc] at h
  obtain ⟨h1, h⟩ := enc_split (by omega) (by omega) (by omega) (by omega) h
  obtain ⟨h2, h⟩ := enc_split (by omega) (by omega) (by omega) (by omega) h
  obtain ⟨h3, h⟩ := enc_split (by omega) (by omega) (by omega) (by omega) h
  exact ⟨⟨h1, h2, h3⟩, h⟩
theorem part_split {s t : Stp} {r q : List UInt8} (hs : lean s) (ht : lean t) (h : part s ++ r = part t ++ q) : s = t ∧ r = q := by
  unfold part at h
  rw [List.append_assoc, List.append_assoc] at h
  obtain ⟨⟨h1, h2, h3⟩, h⟩ := nums_split hs.1 ht.1 h
  obtain ⟨h4, h⟩ := encS_split hs.2 ht.2 h
  refine ⟨?_, h⟩
  cases s; cases t; simp_all
theorem parts_inj : ∀ (A B : List Stp) (s t : Stp), (∀ x ∈ A, lean x) → (∀ x ∈ B, lean x) → valid s = true → valid t = true → (A.map part).flatten ++ nums s = (B.map part).flatten ++ nums t → A = B ∧ s.day = t.day ∧ s.hash = t.hash ∧ s.wit = t.wit := by
  intro A
  induction A with
  | nil =>
    intro B s t _ hB hs ht h
    cases B with
    | nil =>
      have h' : nums s ++ [] = nums t ++ [] := by simpa using h
      exact ⟨rfl, (nums_split hs ht h').1⟩
    | cons b B =>
      exfalso
      have h' : nums s ++ [] = nums b ++ (encS b.val ++ ((B.map part).flatten ++ nums t)) := by
        simpa [part, List.append_assoc] using h
      have h2 := (nums_split hs (hB b (by simp)).1 h').2
      have h3 := encS_pos b.val
      have h4 := congrArg List.length h2
      simp at h4
      omega
  | cons a A ih =>
    intro B s t hA hB hs ht h
    cases B with
    | nil =>
      exfalso
      have h' : nums t ++ [] = nums a ++ (encS a.val ++ ((A.map part).flatten ++ nums s)) := by
        simpa [part, List.append_assoc] using h.symm
      have h2 := (nums_split ht (hA a (by simp)).1 h').2
      have h3 := encS_pos a.val
      have h4 := congrArg List.length h2
      simp at h4
      omega
    | cons b B =>
      have h' : part a ++ ((A.map part).flatten ++ nums s) = part b ++ ((B.map part).flatten ++ nums t) := by
        simpa [List.append_assoc] using h
      obtain ⟨h1, h2⟩ := part_split (hA a (by simp)) (hB b (by simp)) h'
      obtain ⟨h3, h4⟩ := ih B s t (fun x hx => hA x (by simp [hx])) (fun x hx => hB x (by simp [hx])) hs ht h2
      exact ⟨by rw [h1, h3], h4⟩
/-- The bytes of which a stamp's value is the digest. -/
def pre (v : List UInt8) (A : List Stp) (s : Stp) : List UInt8 := UInt8.ofNat s.hash.toNat :: (cov v A ++ nums s)
theorem val_is {v : List UInt8} {A : List Stp} {s : Stp} (h : check (A ++ [s]) v = true) : s.val = sha (pre v A s) ∧ valid s = true ∧ (∀ x ∈ A, lean x) := by
  have h1 := (chk_snoc A s (encS v) 0).1 ((check_iff _ _).1 h).2
  obtain ⟨hA, hs, -, hv⟩ := h1
  obtain ⟨hs1, hs2⟩ := (okS_iff s).1 hs
  obtain ⟨-, -, a3, a4, -⟩ := (valid_iff s).1 hs1
  refine ⟨?_, hs1, ?_⟩
  · rw [hv, hashV, if_pos ⟨a3, a4⟩]; rfl
  · intro x hx
    obtain ⟨k1, k2⟩ := (okS_iff x).1 (chk_ok hA x hx)
    exact ⟨k1, by omega⟩
theorem bound_law {u v : List UInt8} {A B : List Stp} {s t : Stp} (hu : u.length ≤ 65536) (hv : v.length ≤ 65536) (hA : check (A ++ [s]) u = true) (hB : check (B ++ [t]) v = true) (he : s.val = t.val) :
    sha (pre u A s) = sha (pre v B t) ∧ (pre u A s = pre v B t → u = v ∧ A ++ [s] = B ++ [t]) := by
  obtain ⟨h1, hs, hLA⟩ := val_is hA
  obtain ⟨h2, ht, hLB⟩ := val_is hB
  refine ⟨by rw [← h1, ← h2, he], ?_⟩
  intro h
  unfold pre at h
  injection h with _ h
  unfold cov at h
  rw [List.append_assoc, List.append_assoc] at h
  obtain ⟨k1, h⟩ := encS_split hu hv h
  obtain ⟨k2, k3, k4, k5⟩ := parts_inj A B s t hLA hLB hs ht h
  refine ⟨k1, ?_⟩
  rw [k2, stp_ext k3 k4 k5 he]
end Go.Proofs.YtkihcigojhcmgaaDoor

namespace Go.Proofs.YtkihcigojhcmgaaDoor

theorem back_congr {bs cs : List Brk} {k : Int} (h : ∀ s u, good s bs k u = good s cs k u) : ∀ (r : List Stp) (u : Int) (acc : Option Int), back bs k u acc r = back cs k u acc r := by
  intro r
  induction r with
  | nil => intro u acc; rfl
  | cons s r ih => intro u acc; rw [back, back, h, ih]
theorem since_congr {bs cs : List Brk} {day : Int} (h : ∀ s u, good s bs day u = good s cs day u) (L : List Stp) (v : List UInt8) : since L v bs day = since L v cs day := by
  unfold since; rw [back_congr h]
/-- Breaks that become known later make no difference. -/
theorem since_late {bs late : List Brk} {day : Int} (h : ∀ b ∈ late, day < b.known) (L : List Stp) (v : List UInt8) : since L v (bs ++ late) day = since L v bs day := by
  refine since_congr (fun s u => good_same (fun b hb hl => ?_) (fun b hb hl => ⟨List.mem_append_left _ hb, hl⟩)) L v
  rcases List.mem_append.1 hb with hb | hb
  · exact ⟨hb, hl⟩
  · have := h b hb
    rw [live_iff] at hl
    omega
theorem back_le {bs : List Brk} {k : Int} : ∀ (r : List Stp) (u x : Int), (∀ s ∈ r, s.day ≤ x) → r.Pairwise (fun a b => b.day ≤ a.day) → ∃ a, back bs k u (some x) r = some a ∧ a ≤ x := by
  intro r
  induction r with
  | nil => intro u x _ _; exact ⟨x, rfl, Int.le_refl _⟩
  | cons s r ih =>
    intro u x hx hp
    rw [back]
    split
    · obtain ⟨a, h1, h2⟩ := ih s.day s.day (fun t ht => (List.pairwise_cons.1 hp).1 t ht) (List.pairwise_cons.1 hp).2
      exact ⟨a, h1, by have := hx s (by simp); omega⟩
    · exact ⟨x, rfl, Int.le_refl _⟩
theorem back_more {bs cs : List Brk} {k : Int} (h : ∀ s u, good s cs k u = true → good s bs k u = true) : ∀ (r : List Stp) (u : Int) (acc : Option Int) (b : Int), (∀ x, acc = some x → ∀ s ∈ r, s.day ≤ x) → r.Pairwise (fun a b => b.day ≤ a.day) → back cs k u acc r = some b → ∃ a, back bs k u acc r = some a ∧ a ≤ b := by
  intro r
  induction r with
  | nil => intro u acc b _ _ hb; exact ⟨b, hb, Int.le_refl _⟩
  | cons s r ih =>
    intro u acc b hx hp hb
    have hp2 := List.pairwise_cons.1 hp
    rw [back] at hb
    split at hb
    · rename_i hg
      rw [back, if_pos (h s u hg)]
      exact ih s.day (some s.day) b (fun x hxx t ht => by injection hxx with hxx; rw [← hxx]; exact hp2.1 t ht) hp2.2 hb
    · subst hb
      rw [back]
      split
      · obtain ⟨a, h1, h2⟩ := back_le (bs := bs) (k := k) r s.day s.day (fun t ht => hp2.1 t ht) hp2.2
        exact ⟨a, h1, by have := hx b rfl s (by simp); omega⟩
      · exact ⟨b, rfl, Int.le_refl _⟩
/-- A further break never gives an earlier day. -/
theorem since_more {bs extra : List Brk} {day b : Int} {L : List Stp} {v : List UInt8} (h : since L v (bs ++ extra) day = some b) : ∃ a, since L v bs day = some a ∧ a ≤ b := by
  unfold since at h ⊢
  split at h
  · rename_i hc
    rw [if_pos hc]
    refine back_more (fun s u hg => good_mono (fun x hx hl => ⟨List.mem_append_left _ hx, hl⟩) hg) _ _ none b (fun x hx => by cases hx) ?_ h
    rw [List.pairwise_reverse]
    exact ((chk_sorted ((check_iff _ _).1 hc).2).sublist (List.takeWhile_sublist _))
  · cases h
theorem backAt_same {L M : List Stp} {f : Nat} (h : L.take f = M.take f) (bs : List Brk) (k u : Int) (acc : Option Int) : backAt L bs k u acc f = backAt M bs k u acc f := by
  unfold backAt; rw [h]
/-- A further stamp, added while the last one was good, does not change what is proved. -/
theorem since_added {L : List Stp} {v : List UInt8} {bs : List Brk} {n : Nat} {z s : Stp} {x c day : Int} (hn : L.length = n + 1) (hz : L[n]? = some z) (hzd : z.day ≤ day) (hs : s.day = day) (hsv : valid s = true) (h : since L v bs day = some x) (hm : since (L ++ [sealed L v s]) v bs day = some c) : c = x := by
  have hc : check L v = true := by
    unfold since at h
    split at h
    · assumption
    · cases h
  have hlast : lastDay 0 L = z.day := by
    have : L.getLast? = some z := by rw [List.getLast?_eq_getElem?, hn]; exact hz
    simp [lastDay, this]
  have hcm : check (L ++ [sealed L v s]) v = true := check_next (.inr hc) ((canNext_iff _ _).2 ⟨hsv, by omega⟩)
  have hget : (L ++ [sealed L v s])[n + 1]? = some (sealed L v s) := by rw [List.getElem?_append_right (by omega), hn, Nat.sub_self]; rfl
  have hd : (sealed L v s).day = day := hs
  rw [since_last hcm (by simp [hn]) hget (by omega), backAt_succ hget] at hm
  rw [since_last hc hn hz hzd, backAt_succ hz] at h
  have hz2 : (L ++ [sealed L v s])[n]? = some z := by rw [List.getElem?_append_left (by omega)]; exact hz
  split at h
  · rename_i hg
    split at hm
    · rw [hd, backAt_succ hz2, if_pos hg, backAt_same (M := L) (by rw [List.take_append_of_le_length (by omega)]), h] at hm
      injection hm with hm; exact hm.symm
    · cases hm
  · cases h
theorem valid_full (day h : Int) (h0 : 0 ≤ day) (h1 : day ≤ 100000) (h2 : 0 ≤ h) (h3 : h ≤ 7) : valid (bare day h 255) = true := by
  rw [valid_iff]
  exact ⟨h0, h1, h2, h3, (by decide : (0 : Int) ≤ 255), (by decide : (255 : Int) < 256), (by decide : 2 ≤ popc (255 : Int).toNat)⟩
end Go.Proofs.YtkihcigojhcmgaaDoor

namespace Go.Proofs.YtkihcigojhcmgaaDoor
open Go.RowKit

theorem refuse_ok {L : List Stp} {v : List UInt8} {k : Nat} {s : Stp} (hk : L[k]? = some s) (h : okS s = false) : check L v = false := by
  cases hc : check L v with
  | false => rfl
  | true =>
    have := chk_ok ((check_iff _ _).1 hc).2 s (List.mem_of_getElem? hk)
    rw [h] at this; cases this
theorem refuse_sort {L : List Stp} {v : List UInt8} {n : Nat} {a b : Stp} (ha : L[n]? = some a) (hb : L[n + 1]? = some b) (h : b.day < a.day) : check L v = false := by
  cases hc : check L v with
  | false => rfl
  | true =>
    have := check_le hc ha hb (by omega)
    omega
theorem refuse_nil (v : List UInt8) : check [] v = false := rfl
theorem refuse_renew {L : List Stp} {v : List UInt8} (s : Stp) (h : check L v = false) : renew L v s = none := by simp [renew, h]
theorem bad_day (s : Stp) (d : Int) (h : d < 0) : okS { s with day := d } = false := by
  cases hc : okS { s with day := d } with
  | false => rfl
  | true =>
    have := (valid_iff _).1 ((okS_iff _).1 hc).1
    have h0 : 0 ≤ d := this.1
    omega
theorem bad_hash (s : Stp) (d : Int) (h : 7 < d) : okS { s with hash := d } = false := by
  cases hc : okS { s with hash := d } with
  | false => rfl
  | true =>
    have := (valid_iff _).1 ((okS_iff _).1 hc).1
    have h0 : d ≤ 7 := this.2.2.2.1
    omega
theorem popc_one : ∀ p : Fin 8, popc (2 ^ p.val) = 1 := by decide
theorem bad_wit (s : Stp) (p : Nat) (h : p < 8) : okS { s with wit := ((2 ^ p : Nat) : Int) } = false := by
  cases hc : okS { s with wit := ((2 ^ p : Nat) : Int) } with
  | false => rfl
  | true =>
    have h0 : 2 ≤ popc (((2 ^ p : Nat) : Int)).toNat := ((valid_iff _).1 ((okS_iff _).1 hc).1).2.2.2.2.2.2
    rw [Int.toNat_natCast, popc_one ⟨p, h⟩] at h0
    omega
theorem one_shl (p : Nat) (h : p < 8) : wrap64 (2 ^ p) = ((2 ^ p : Nat) : Int) := by
  have key : ∀ p : Fin 8, wrap64 (2 ^ p.val) = ((2 ^ p.val : Nat) : Int) := by decide +kernel
  exact key ⟨p, h⟩
theorem bad_wit2 (s : Stp) : okS { s with wit := 256 } = false := by
  cases hc : okS { s with wit := 256 } with
  | false => rfl
  | true =>
    have h0 : (256 : Int) < 256 := ((valid_iff _).1 ((okS_iff _).1 hc).1).2.2.2.2.2.1
    omega
theorem bad_val (s : Stp) (t : List UInt8) (h : t.length < 32) : okS { s with val := t } = false := by
  cases hc : okS { s with val := t } with
  | false => rfl
  | true =>
    have h0 : t.length = 32 := ((okS_iff _).1 hc).2
    omega
theorem set_at {L : List Stp} {k : Nat} {s d : Stp} (h : L[k]? = some s) : (L.set k d)[k]? = some d := by
  rw [List.getElem?_set_self (List.getElem?_eq_some_iff.1 h).1]
theorem set_off {L : List Stp} {k j : Nat} {d : Stp} (h : k ≠ j) : (L.set k d)[j]? = L[j]? := by
  rw [List.getElem?_set_ne h]
end Go.Proofs.YtkihcigojhcmgaaDoor
