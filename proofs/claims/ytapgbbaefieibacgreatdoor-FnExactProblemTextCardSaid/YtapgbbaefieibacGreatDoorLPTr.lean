/- FnExactProblemText holds of the given program, as a tied card: ProblemText returns what the reference's returns, for all arguments. -/
import Derived.Test.YtapgbbaefieibacGreatDoorG47
import Derived.Test.YtapgbbaefieibacGreatDoorG52
set_option linter.unusedSimpArgs false
set_option linter.unusedVariables false
set_option linter.unusedSectionVars false
/- PTr -/
namespace Go.Proofs.YtapgbbaefieibacGreatDoor.fnExactProblemText
open Go.ChangeShapes Go.WideShapes Go.ChangeAt Go.RowKit Go.PL
set_option linter.unusedVariables false
theorem own : ownKnob Tryz.prog.godebug = none := by kernel_rfl
theorem laidOut : laidOutB Tryz.prog = true := by kernel_rfl
theorem readable0 : Tryz.prog.readableRec 30 = true := by kernel_rfl
theorem rowed : varsRowed Tryz.prog Rows.fnExactProblemTextSpec.vars = true := by kernel_rfl
abbrev laid : List (String × DataW Unit) := Rows.fnExactProblemTextRow.laid
theorem keepTab : (laid.filter fun x => x.1 == tabName) = [(tabName, Lib.tabData .u64 Lib.pow10Tab)] := by kernel_rfl
def glName0 : String := ((laid[3]?).map (·.1)).getD default
theorem keepGl0 : (laid.filter fun x => x.1 == glName0) = [(glName0, .slice (soW.map fun x => .lit (.string x.data.toList)) [])] := by kernel_rfl
theorem laidOk_of {W : World} (hL : laidMet Tryz.prog laid W) : LaidOk W := by
  have hF := hL.filter (fun x => x.1 == tabName)
  rw [keepTab] at hF
  have tabAt : Tryz.prog.globalNamed tabName = some 1 := by kernel_rfl
  refine ⟨⟨1, tabAt, Lib.tabIs_of_head tabAt (by kernel_rfl) Tryz.underlying156 Tryz.underlying139 (by kernel_rfl) (by kernel_rfl) hF⟩, fun x hx => ?_⟩
  have hx' : x = (0, [.sl (soW.map .s)]) := by simpa [TT] using hx
  rcases hx' with rfl
  · have hG := hL.filter (fun x => x.1 == glName0)
    rw [keepGl0] at hG
    exact strs_laid (by kernel_rfl) (by kernel_rfl) Tryz.underlying32 Tryz.underlying9 (by kernel_rfl) (by decide) hG
set_option maxRecDepth 100000 in
theorem lifted (os : Os) (started : os.Started) (H : Type) (enc : TypeId × Value → H) :
    ReturnsInHanded {} Tryz.checked os 3 .any (fun w args => (Rows.fnExactProblemTextSpec.pre enc Tryz.prog Tryz.f3 Rows.fnExactProblemTextRow.domain false w args ∧ laidMetH Tryz.prog laid w) ∧ sizedMet enc Tryz.prog Tryz.f3 (OpenSpec.ofChange Rows.fnExactProblemTextSpec) false w args)
      (Rows.fnExactProblemTextSpec.post enc Tryz.prog Tryz.f3 false true false false) := by
  refine returnsInHanded_of_change_and (C := Tryz.checked) (X := fun w args => laidMetH Tryz.prog laid w) (fun _ _ _ hh h => h.of_heap hh) own started (by kernel_rfl) Tryz.func3
    (ChangeSpec.witness_shaped (enc := enc) (C := Tryz.checked) (os := os) (X := fun w _ => laidMetH Tryz.prog laid w) false (World.laidAll Tryz.prog os laid) #[.agg #[.slice none 0 0, .slice none 0 0, .slice none 0 0, .slice none 0 0, .int .i64 0, .bool false, .slice none 0 0, .slice none 0 0, .int .i64 0, .int .i64 0]] 8 (World.laidAll_os _ _ _)
      (World.shaped_of_ZipB (by kernel_rfl) (by kernel_rfl)) (by kernel_rfl) (by kernel_rfl) (by kernel_rfl)
      (by rw [MakeChecks.laidMetH_plain _ _ _ (by kernel_rfl)]; exact laidMet_laidAll _ (by kernel_rfl) (by kernel_rfl))) ?_
  intro W base args ds gs before hval0 hW hcnd hsz0 hL0 _
  have hsz : (DataW.weightsEach Tryz.prog (Tryz.f3.params.toList ++ Rows.fnExactProblemTextSpec.plain.varTypes Tryz.prog) (ds ++ gs)).all (· ≤ reachBytes) = true := hsz0
  have hval : ∀ (j : Nat) t v, Tryz.f3.params[j]? = some t → args[j]? = some v → Value.okWide Tryz.prog W .any base t v := hval0
  have hW' := hW
  obtain ⟨p, q, hA0, hV, rfl, hfz, hnd⟩ := hW
  have hA : DataW.TrodAll enc Tryz.prog W 0 (fun _ => true) true Tryz.f3.params.toList args.toList ds p := hA0
  rw [Tryz.params3] at hA hval hsz
  have hlt := DataW.TrodAll.lt hA
  obtain ⟨v0, d0, rfl, rfl, hd0⟩ := trodAll_one hA
  obtain ⟨g0, rfl⟩ : ∃ g0, gs = [g0] := vars_len1 hV
  have hw0 : ∀ k ∈ d0.weights Tryz.prog 30, k ≤ reachBytes := fun k hk => of_decide_eq_true (List.all_eq_true.1 hsz k (List.mem_append_left _ hk))
  obtain ⟨r0, hr0, hrel0⟩ := rdProblem.argS Tryz.underlying30 (hval 0 30 v0 rfl rfl) hd0 hw0
  have hc : CC 3 [.d (pbD r0.f r0.start r0.low r0.high r0.solver r0.eps.neg r0.eps.num r0.eps.den r0.iter r0.back)] [] (.d (.b true)) [] := Con.ok (C := CC) hr0
  have hL : laidMet Tryz.prog laid W := by rw [MakeChecks.laidMetH_plain _ _ _ (by kernel_rfl)] at hL0; exact hL0
  refine (callTrueL hc (laidOk_of hL) hrel0).mono fun e W' ⟨he, bel⟩ => ?_
  subst he
  exact ⟨_, rfl, _, _, _, [], _, _, hW', trodAll_mk1 (shut_bool Tryz.underlying4 _), trodAll_mk1 (RowKit.Below.trod laidOut readable0 (of_decide_eq_true (by kernel_rfl)) hd0 bel hlt), Below.trodVars laidOut bel rowed hV, bel.frame _, fun h => by cases h⟩
theorem over : Rows.fnExactProblemTextRow.holds Tryz.pinned (OpenSpec.ofChange Rows.fnExactProblemTextSpec) :=
  OpenClaim.holds_of_wide 3 Tryz.f3 rfl rfl rfl rfl rfl rfl rfl ⟨rfl, rfl, rfl, rfl, rfl⟩ rfl rfl rfl rfl rfl (by kernel_rfl) Tryz.func3 (by kernel_rfl)
    (of_decide_eq_true (by kernel_rfl)) (by unfold Func.isWrapper; first | (rw [if_pos (by decide +kernel)]; kernel_rfl) | (rw [if_neg (by decide +kernel)]; exact ⟨rfl, rfl⟩))
    (fun os started H enc _ => lifted os started H enc)
theorem proved : Rows.FnExactProblemTextSaid := over
theorem card : Rows.FnExactProblemTextCardSaid :=
  Claim7.holds_tied_plain_at .later [] [.data, .data, .data, .widerDeep] true Rows.fnExactProblemTextCard.stood.harness false over (fun _ h => by cases h) (by kernel_rfl) (fun _ h => by cases h) fnExactProblemText_row_tie rfl ⟨rfl, rfl⟩ (by kernel_rfl) rfl
    (fun f fn hf hfn => by
      obtain rfl : f = 3 := Option.some.inj ((show Tryz.prog.funcNamed Rows.fnExactProblemTextRow.func = some 3 by kernel_rfl).symm.trans hf) |>.symm
      obtain rfl : fn = Tryz.f3 := (Option.some.inj (Tryz.func3.symm.trans hfn)).symm
      exact ⟨by kernel_rfl, fun j t ht => by
        rw [Tryz.params3] at ht
        have hm : t ∈ [30] := by simpa using Array.mem_of_getElem? ht
        have hall : ([30].all fun u => !Tryz.prog.wantsStandIn u) = true := by kernel_rfl
        exact (show Tryz.prog.wantsStandIn t = false by simpa using List.all_eq_true.1 hall t hm)⟩)
    (by kernel_rfl)
#print axioms card
end Go.Proofs.YtapgbbaefieibacGreatDoor.fnExactProblemText
namespace Go.Proofs.YtapgbbaefieibacGreatDoor
/-- The card, under a short name, for the claim. -/
theorem fnExactProblemText_card : Rows.FnExactProblemTextCardSaid := fnExactProblemText.card
end Go.Proofs.YtapgbbaefieibacGreatDoor
