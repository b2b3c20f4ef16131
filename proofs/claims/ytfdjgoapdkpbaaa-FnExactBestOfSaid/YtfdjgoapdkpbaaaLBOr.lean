/- For every input the program's BestOf answers as the reference's does, changes nothing that it is given, and hands out memory of its own. -/
import Derived.Test.YtfdjgoapdkpbaaaG31
import Derived.Test.YtfdjgoapdkpbaaaBO8
import Derived.Test.YtfdjgoapdkpbaaaRows
set_option linter.unusedSimpArgs false
set_option linter.unusedVariables false
set_option linter.unusedSectionVars false
/- BOr -/
namespace Go.Proofs.Ytfdjgoapdkpbaaa.fnExactBestOf
open Go.ChangeShapes Go.WideShapes Go.ChangeAt Go.RowKit Go.PL
set_option linter.unusedVariables false
theorem own : ownKnob Try.prog.godebug = none := by kernel_rfl
theorem laidOut : laidOutB Try.prog = true := by kernel_rfl
theorem readable : Try.prog.readableRec 24 = true := by kernel_rfl
set_option maxRecDepth 100000 in
theorem lifted (os : Os) (started : os.Started) (H : Type) (enc : TypeId × Value → H) :
    ReturnsInHanded {} Try.checked os 3 .any (Rows.fnExactBestOfSpec.pre6 enc Try.prog Try.f3 Rows.fnExactBestOfRow.domain false) (Rows.fnExactBestOfSpec.post enc Try.prog Try.f3 false true false false) := by
  refine returnsInHanded_of_change_sized (C := Try.checked) own started (by kernel_rfl) Try.func3
    (ChangeSpec.witness6 (enc := enc) (C := Try.checked) false ⟨#[], #[.agg #[.int .i64 0, .slice none 0 0]], []⟩ 8 (by kernel_rfl) (by kernel_rfl) (by kernel_rfl) (by kernel_rfl)) ?_
  intro W base args ds gs before hval0 hW hcnd hsz0 _
  have hsz : (DataW.weightsEach Try.prog (Try.f3.params.toList ++ Rows.fnExactBestOfSpec.plain.varTypes Try.prog) (ds ++ gs)).all (· ≤ reachBytes) = true := hsz0
  have hval : ∀ (j : Nat) t v, Try.f3.params[j]? = some t → args[j]? = some v → Value.okWide Try.prog W .any base t v := hval0
  have hW' := hW
  obtain ⟨p, q, hA0, hV, rfl, hfz, hnd⟩ := hW
  have hA : DataW.TrodAll enc Try.prog W 0 (fun _ => true) true Try.f3.params.toList args.toList ds p := hA0
  rw [Try.params3] at hA hval hsz
  have hlt := DataW.TrodAll.lt hA
  obtain ⟨v, d, rfl, rfl, hd⟩ := trodAll_one hA
  obtain ⟨rfl, rfl⟩ := trodVars_none hV
  have hw : ∀ k ∈ d.weights Try.prog 24, k ≤ reachBytes := fun k hk => of_decide_eq_true (List.all_eq_true.1 hsz k (List.mem_append_left _ hk))
  obtain ⟨r, hr, hrel⟩ := rdReport.argS Try.underlying24 (hval 0 24 v rfl rfl) hd hw
  have hc : CC 3 [.d (.agg [.i r.status, .sl (r.recs.map encRc)])] [] (.d (.b true)) [] := Con.ok (C := CC) hr
  refine (callTrue hc hrel).mono fun e W' ⟨he, bel⟩ => ?_
  subst he
  exact ⟨_, rfl, _, _, _, [], _, [], hW', trodAll_mk1 (shut_bool Try.underlying4 _), trodAll_mk1 (RowKit.Below.trod laidOut readable (of_decide_eq_true (by kernel_rfl)) hd bel hlt), rfl, bel.frame _, fun h => by cases h⟩
theorem over : Rows.fnExactBestOfRow.holds Try.pinned (OpenSpec.ofChange Rows.fnExactBestOfSpec) :=
  OpenClaim.holds_of_wide 3 Try.f3 rfl rfl rfl rfl rfl rfl rfl ⟨rfl, rfl, rfl, rfl, rfl⟩ rfl rfl rfl rfl rfl (by kernel_rfl) Try.func3 (by kernel_rfl)
    (of_decide_eq_true (by kernel_rfl)) (by unfold Func.isWrapper; first | (rw [if_pos (by decide +kernel)]; kernel_rfl) | (rw [if_neg (by decide +kernel)]; exact ⟨rfl, rfl⟩))
    (fun os started H enc _ => lifted os started H enc)
theorem proved : Rows.FnExactBestOfSaid := over
#print axioms proved
end Go.Proofs.Ytfdjgoapdkpbaaa.fnExactBestOf
namespace Go.Proofs.Ytfdjgoapdkpbaaa
/-- The row, under a short name, for the claim. -/
theorem fnExactBestOf_holds : Rows.FnExactBestOfSaid := fnExactBestOf.proved
end Go.Proofs.Ytfdjgoapdkpbaaa
