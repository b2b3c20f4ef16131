/- The law FnExactReportOK of the given program returns true, whatever its input, and leaves its input as it was. No condition. -/
import Derived.Test.YticeamhfobihpaaAD
import Derived.Test.YticeamhfobihpaaRows
set_option linter.unusedSimpArgs false
set_option linter.unusedVariables false
set_option linter.unusedSectionVars false
/- AE -/
namespace Go.PL
open Go Go.Proofs
section
variable {H : Type} {enc : TypeId × Value → H} {w : World}
theorem rdRecords : Rd enc Try.prog w 42 (fun l : List Rc => [.sl (l.map encRc)]) pRcs :=
  (Rd.slice (sz := 6) (by_ := 96) (fun r : Rc => encRc r) Try.underlying42 (by kernel_rfl) (by kernel_rfl) (by decide) (fun _ => rfl) (fun _ => rfl) rdRecord).map id (fun _ => rfl) (fun l h => ⟨by have := h.1; unfold reachBytes at this; simp only [id]; omega, h.2⟩)
theorem rdReport : Rd enc Try.prog w 44 (fun r : Rp => [.i r.status, .sl (r.recs.map encRc)]) (fun r => pRcs r.recs) :=
  (Rd.struct Try.underlying44 (by kernel_rfl) (RdF.cons (n := 1) rfl (by kernel_rfl) (Rd.int Try.underlying3) (RdF.cons (n := 1) rfl (by kernel_rfl) rdRecords RdF.nil))).map
    (fun x => (⟨x.1, x.2.1⟩ : Rp)) (fun _ => rfl) (fun x h => h.2.1)
end
end Go.PL
namespace Go.Proofs.Yticeamhfobihpaa.fnExactReportOK
open Go.ChangeShapes Go.WideShapes Go.ChangeAt Go.RowKit Go.PL
set_option linter.unusedVariables false
theorem own : ownKnob Try.prog.godebug = none := by kernel_rfl
theorem laidOut : laidOutB Try.prog = true := by kernel_rfl
theorem readable : Try.prog.readableRec 44 = true := by kernel_rfl
set_option maxRecDepth 100000 in
theorem lifted (os : Os) (started : os.Started) (H : Type) (enc : TypeId × Value → H) :
    ReturnsInHanded {} Try.checked os 5 .any (Rows.fnExactReportOKSpec.pre6 enc Try.prog Try.f5 Rows.fnExactReportOKRow.domain false) (Rows.fnExactReportOKSpec.post enc Try.prog Try.f5 false true false false) := by
  refine returnsInHanded_of_change_sized (C := Try.checked) own started (by kernel_rfl) Try.func5
    (ChangeSpec.witness6 (enc := enc) (C := Try.checked) false ⟨#[], #[.agg #[.int .i64 0, .slice none 0 0]], []⟩ 8 (by kernel_rfl) (by kernel_rfl) (by kernel_rfl) (by kernel_rfl)) ?_
  intro W base args ds gs before hval0 hW hcnd hsz0 _
  have hsz : (DataW.weightsEach Try.prog (Try.f5.params.toList ++ Rows.fnExactReportOKSpec.plain.varTypes Try.prog) (ds ++ gs)).all (· ≤ reachBytes) = true := hsz0
  have hval : ∀ (j : Nat) t v, Try.f5.params[j]? = some t → args[j]? = some v → Value.okWide Try.prog W .any base t v := hval0
  have hW' := hW
  obtain ⟨p, q, hA0, hV, rfl, hfz, hnd⟩ := hW
  have hA : DataW.TrodAll enc Try.prog W 0 (fun _ => true) true Try.f5.params.toList args.toList ds p := hA0
  rw [Try.params5] at hA hval hsz
  have hlt := DataW.TrodAll.lt hA
  obtain ⟨v, d, rfl, rfl, hd⟩ := trodAll_one hA
  obtain ⟨rfl, rfl⟩ := trodVars_none hV
  have hw : ∀ k ∈ d.weights Try.prog 44, k ≤ reachBytes := fun k hk => of_decide_eq_true (List.all_eq_true.1 hsz k (List.mem_append_left _ hk))
  obtain ⟨r, hr, hrel⟩ := rdReport.argS Try.underlying44 (hval 0 44 v rfl rfl) hd hw
  have hc : CC 5 [.d (.agg [.i r.status, .sl (r.recs.map encRc)])] [] (.d (.b true)) [] := Con.ok (C := CC) hr
  refine (callTrue hc hrel).mono fun e W' ⟨he, bel⟩ => ?_
  subst he
  exact ⟨_, rfl, _, _, _, [], _, [], hW', trodAll_mk1 (shut_bool Try.underlying4 _), trodAll_mk1 (RowKit.Below.trod laidOut readable (of_decide_eq_true (by kernel_rfl)) hd bel hlt), rfl, bel.frame _, fun h => by cases h⟩
theorem over : Rows.fnExactReportOKRow.holds Try.pinned (OpenSpec.ofChange Rows.fnExactReportOKSpec) :=
  OpenClaim.holds_of_wide 5 Try.f5 rfl rfl rfl rfl rfl rfl rfl ⟨rfl, rfl, rfl, rfl, rfl⟩ rfl rfl rfl rfl rfl (by kernel_rfl) Try.func5 (by kernel_rfl)
    (of_decide_eq_true (by kernel_rfl)) (by unfold Func.isWrapper; first | (rw [if_pos (by decide +kernel)]; kernel_rfl) | (rw [if_neg (by decide +kernel)]; exact ⟨rfl, rfl⟩))
    (fun os started H enc _ => lifted os started H enc)
theorem proved : Rows.FnExactReportOKSaid := over
#print axioms proved
end Go.Proofs.Yticeamhfobihpaa.fnExactReportOK
namespace Go.Proofs.Yticeamhfobihpaa
/-- The row, under a short name, for the claim. -/
theorem fnExactReportOK_holds : Rows.FnExactReportOKSaid := fnExactReportOK.proved
end Go.Proofs.Yticeamhfobihpaa
