/- WireSequence holds for every input: a concatenation of encodings of integers and strings is decoded into the same values, and ends exactly at its end. -/
import Derived.Test.YteffhohemodckaaDoorFrame
import Derived.Test.YteffhohemodckaaDoorWireTable
import Derived.Test.YteffhohemodckaaDoorWireSeq
import Derived.Deep.Strs
namespace Go.Proofs.YteffhohemodckaaDoor.WireSequenceP
open Go.ChangeShapes Go.WideShapes Go.ChangeAt Go.RowKit
open Go.ChangeMaps (open_string)

set_option maxRecDepth 100000 in
/-- What the walk gives, for every argument. -/
theorem contract (H : Type) (enc : TypeId × Value → H) (W : World) (base : Nat) (args : Array Value) (ds gs : List (DataW H)) (before : List MemPlace)
    (hval : ∀ (j : Nat) t v, Tryd.f6.params[j]? = some t → args[j]? = some v → Value.okWide Tryd.prog W .any base t v)
    (hW : DataW.Whole enc Tryd.prog Tryd.f6.params.toList Rows.wireSequenceSpec.vars false W args.toList ds gs before)
    (hreach : (DataW.weightsEach Tryd.prog (Tryd.f6.params.toList ++ []) (ds ++ gs)).all (· ≤ reachBytes) = true)
    (hL : laidMetH Tryd.prog Rows.wireSequenceRow.laid W) :
    Calls Tryd.prog 6 args W fun e W' => ∃ v, e = .returned v ∧ Rows.wireSequenceSpec.post enc Tryd.prog Tryd.f6 false true false false W args v W' := by
  have hW' := hW
  obtain ⟨p, q, hA0, hV, rfl, hfz, hnd⟩ := hW
  obtain ⟨rfl, -⟩ := trodVars_none hV
  have hA : DataW.TrodAll enc Tryd.prog W 0 (fun _ => true) true Tryd.f6.params.toList args.toList ds p := hA0
  rw [Tryd.params6] at hA hval
  rw [Tryd.params6] at hreach
  obtain ⟨v0, vs0, d0, ds0, p0, q0, hargs, rfl, rfl, h0, r0⟩ := trodAll_cons hA
  obtain ⟨v1, vs1, d1, ds1, p1, q1, rfl, rfl, rfl, h1, r1⟩ := trodAll_cons r0
  obtain ⟨rfl, rfl, rfl⟩ := trodAll_nil r1
  obtain rfl : args = #[v0, v1] := by cases args; simp_all
  have hT := tableAt_of hL
  obtain ⟨pa, la, ca, rfl⟩ := okWide_slice Tryd.underlying24 (hval 0 24 v0 rfl rfl)
  obtain ⟨pb, lb, cb, rfl⟩ := okWide_slice Tryd.underlying40 (hval 1 40 v1 rfl rfl)
  obtain ⟨f0, g0⟩ := h0
  obtain ⟨f1, g1⟩ := h1
  have hcall : Calls Tryd.prog 6 #[.slice pa la ca, .slice pb lb cb] W fun e W' => e = .returned (.bool true) ∧ Below W.heap.size W W' := by
    rcases open_ints Tryd.underlying24 Tryd.underlying3 (by kernel_rfl) g0 with ⟨k0, -⟩ | ⟨a, len, cap, zs, k0, -, hlc, hcm, hzl, -, hcell, hwf⟩
    · have k0' : Value.slice pa la ca = .slice none 0 0 := by simpa [Value.cells] using k0
      cases k0'
      rcases Go.Deep.open_strs Tryd.underlying40 Tryd.underlying9 (by kernel_rfl) g1 with ⟨k1, -⟩ | ⟨b, len', cap', m, Sx, k1, -, hlc', hcm', -⟩
      · have k1' : Value.slice pb lb cb = .slice none 0 0 := by simpa [Value.cells] using k1
        cases k1'
        exact seq_nil _ _ 0 0 0 0 W (by omega) (by omega) (Or.inl rfl) hT hT.lt
      · have k1' : Value.slice pb lb cb = .slice (some b) len' cap' := by simpa [Value.cells] using k1
        cases k1'
        unfold maxLen at hcm'
        exact seq_nil _ _ 0 0 lb cb W (by omega) (by omega) (Or.inl rfl) hT hT.lt
    have k0' : Value.slice pa la ca = .slice (some a) len cap := by simpa [Value.cells] using k0
    cases k0'
    unfold maxLen at hcm
    rcases Go.Deep.open_strs Tryd.underlying40 Tryd.underlying9 (by kernel_rfl) g1 with ⟨k1, -⟩ | ⟨b, len', cap', m, Sx, k1, -, hlc', hcm', hm, -, hS⟩
    · have k1' : Value.slice pb lb cb = .slice none 0 0 := by simpa [Value.cells] using k1
      cases k1'
      exact seq_nil _ _ la ca 0 0 W (by omega) (by omega) (Or.inr rfl) hT hT.lt
    have k1' : Value.slice pb lb cb = .slice (some b) len' cap' := by simpa [Value.cells] using k1
    cases k1'
    unfold maxLen at hcm'
    by_cases ha0 : la = 0
    · exact seq_nil _ _ la ca lb cb W (by omega) (by omega) (Or.inl ha0) hT hT.lt
    by_cases hb0 : lb = 0
    · exact seq_nil _ _ la ca lb cb W (by omega) (by omega) (Or.inr hb0) hT hT.lt
    have hzl' : la ≤ zs.length := by rw [hzl]; split <;> omega
    have hml : lb ≤ m := by rw [hm]; split <;> omega
    obtain ⟨xb, xo, rfl, hc⟩ := ints_at hcell (by omega)
    obtain ⟨yb, yo, yspot⟩ := b
    have hsp : yspot = none := by simpa [Addr.add] using World.cell?_spot (hS 0 (by omega)).1
    subst hsp
    have hd : ∀ i, i < m → W.cell? ⟨yb, yo + i, none⟩ = some (.string (Sx i)) := fun i hi => by rw [← Go.WideShapes.add_plain]; exact (hS i hi).1
    refine seq_any xb xo yb 0 yo 0 la ca lb cb (fun i => zs.getD i 0) Sx W (by omega) (by omega) ?_ ?_ (fun i hi => hc i (by omega)) (fun i hi => hd i (by omega)) hT hT.lt
    · intro i hi
      have hz : zs.getD i 0 ∈ zs := by rw [List.getD_eq_getElem?_getD, List.getElem?_eq_getElem (show i < zs.length by omega)]; exact List.getElem_mem _
      exact int_bounds (hwf _ hz)
    · intro i hi
      have := (hS i (by omega)).2
      unfold maxLen at this
      omega
  refine hcall.mono ?_
  rintro e W' ⟨rfl, hb⟩
  exact ⟨_, rfl, law_post laidOut (by rw [Tryd.params6]; decide +kernel) rfl hW' (by kernel_rfl) Tryd.underlying4 rfl rfl rfl hb⟩

def wargs : Array Value := #[.slice none 0 0, .slice none 0 0]
theorem laid_met (os : Os) : laidMet Tryd.prog Rows.wireSequenceRow.laid ((laidWorld os).forCall (fun _ _ => 0) ⟨#[], wargs, []⟩).memory :=
  laidMet_of_run' 8 (by kernel_rfl) (by kernel_rfl)
theorem reads (os : Os) {H : Type} (enc : TypeId × Value → H) : ∃ places, DataW.whole enc Tryd.prog ((laidWorld os).forCall (fun _ _ => 0) ⟨#[], wargs, []⟩).memory Tryd.f6.params.toList Rows.wireSequenceSpec.vars false wargs.toList 8 = some ([.nil, .nil], [], places) :=
  ⟨[], by kernel_rfl⟩

set_option maxRecDepth 100000 in
theorem lifted (os : Os) (started : os.Started) (H : Type) (enc : TypeId × Value → H) (F : Stop.Interp) :
    ReturnsInHanded {} Tryd.checked os 6 .any ((OpenSpec.ofChange Rows.wireSequenceSpec).preRow enc Tryd.prog Tryd.f6 Rows.wireSequenceRow.domain false Rows.wireSequenceRow.laid) (((OpenSpec.ofChange Rows.wireSequenceSpec).at F).post enc Tryd.prog Tryd.f6 false true false false) := by
  obtain ⟨places, hx⟩ := reads os enc
  refine returnsInHanded_of_row (C := Tryd.checked) (s := OpenSpec.ofChange Rows.wireSequenceSpec) own started (by kernel_rfl) Tryd.func6
    (witness_row_at (enc := enc) (C := Tryd.checked) false (laidWorld os) wargs rfl (by kernel_rfl) (by kernel_rfl) (by kernel_rfl)
      (OpenSpec.preRow_of_cond 8 hx (by kernel_rfl) (fun k hk => by cases hk) (by kernel_rfl) (laid_met os))) ?_
  intro W base args ds gs before hval hW _ hcond hreach hL _ _
  exact contract H enc W base args ds gs before hval hW hreach hL

theorem said : Rows.WireSequenceSaid :=
  OpenClaim.holds_of_cond 6 Tryd.f6 rfl rfl rfl rfl rfl rfl rfl ⟨rfl, rfl, rfl, rfl, rfl⟩ rfl rfl rfl rfl rfl (by kernel_rfl) Tryd.func6 (by kernel_rfl)
    (of_decide_eq_true (by kernel_rfl)) (by unfold Func.isWrapper; first | (rw [if_pos (by decide +kernel)]; kernel_rfl) | (rw [if_neg (by decide +kernel)]; exact ⟨rfl, rfl⟩))
    (fun os started H enc _ F => by rw [OpenClaim.pre_eq_preRow]; exact lifted os started H enc F)

theorem plain (f : FuncId) (fn : Func) (hf : Tryd.pinned.checked.prog.funcNamed Rows.wireSequenceRow.func = some f) (hfn : Tryd.pinned.checked.prog.funcs[f]? = some fn) :
    false = Tryd.pinned.checked.prog.looks [] ∧ ∀ (j : Nat) t, fn.params[j]? = some t → Tryd.pinned.checked.prog.wantsStandIn t = false := by
  obtain rfl : f = 6 := Option.some.inj ((show Tryd.prog.funcNamed Rows.wireSequenceRow.func = some 6 by kernel_rfl).symm.trans hf) |>.symm
  obtain rfl : fn = Tryd.f6 := (Option.some.inj (Tryd.func6.symm.trans hfn)).symm
  refine ⟨by kernel_rfl, fun j t ht => ?_⟩
  rw [Tryd.params6] at ht
  have hm := Array.mem_of_getElem? ht
  have hall : (#[24, 40].toList.all fun u => !Tryd.prog.wantsStandIn u) = true := by kernel_rfl
  have := List.all_eq_true.1 hall t (by simpa using hm)
  show Tryd.prog.wantsStandIn t = false
  simpa using this

/-- The statement. -/
theorem card : Rows.WireSequenceCardSaid :=
  Claim7.holds_tied_plain_at .later [] _ _ _ _ said (fun _ h => by cases h) (by kernel_rfl) (fun _ h => by cases h) wireSequence_row_tie rfl ⟨rfl, rfl⟩ (by kernel_rfl) rfl plain (by kernel_rfl)

end Go.Proofs.YteffhohemodckaaDoor.WireSequenceP
