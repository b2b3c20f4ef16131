/- FnExactAuditReport holds of the given program: AuditReport returns what the reference's returns, for all arguments. -/
import Derived.Test.YtldgmfplnlnhcaaGreatG53
import Derived.Test.YtldgmfplnlnhcaaGreatG54
import Derived.Test.YtldgmfplnlnhcaaGreatRows
set_option linter.unusedSimpArgs false
set_option linter.unusedVariables false
set_option linter.unusedSectionVars false
/- XAr -/
namespace Go.PL
open Go Go.Proofs
/-- The law's contract as the machine bears it. -/
theorem callTrue2 {f : FuncId} {x y : D} (h : CC f [.d x, .d y] [] (.d (.b true)) []) {W : World} {v u : Value} (hv : RelD W (PrW W) x v) (hu : RelD W (PrW W) y u) : Calls Tryz.prog f #[v, u] W fun e W' => e = .returned (.bool true) ∧ RowKit.Below W.heap.size W W' := by
  have hs := Den.says (T := TT) (gl := ⟨[], []⟩) (by kernel_rfl) (fun f a os r os' h => h.elim) h
  refine (hs.2 W (PrW W) ⟨fun _ => 0, fun _ => 0⟩ #[v, u] (memW W _) .nil rfl fun i hi => ?_).mono fun e W' ⟨q, Pr', p', h1, h2, h3⟩ => ?_
  · rcases (show i = 0 ∨ i = 1 by simp at hi; omega) with rfl | rfl
    · exact .d hv
    · exact .d hu
  · subst h1
    cases h3 with
    | d h3 => cases h3; exact ⟨rfl, Below.of_inv h2⟩
end Go.PL
namespace Go.Proofs.YtldgmfplnlnhcaaGreat.fnExactAuditReport
open Go.ChangeShapes Go.WideShapes Go.ChangeAt Go.RowKit Go.PL
set_option linter.unusedVariables false
theorem own : ownKnob Tryz.prog.godebug = none := by kernel_rfl
theorem laidOut : laidOutB Tryz.prog = true := by kernel_rfl
theorem readable0 : Tryz.prog.readableRec 30 = true := by kernel_rfl
theorem readable1 : Tryz.prog.readableRec 33 = true := by kernel_rfl
set_option maxRecDepth 100000 in
theorem lifted (os : Os) (started : os.Started) (H : Type) (enc : TypeId × Value → H) :
    ReturnsInHanded {} Tryz.checked os 3 .any (Rows.fnExactAuditReportSpec.pre6 enc Tryz.prog Tryz.f3 Rows.fnExactAuditReportRow.domain false) (Rows.fnExactAuditReportSpec.post enc Tryz.prog Tryz.f3 false true false false) := by
  refine returnsInHanded_of_change_sized (C := Tryz.checked) own started (by kernel_rfl) Tryz.func3
    (ChangeSpec.witness6 (enc := enc) (C := Tryz.checked) false ⟨#[], #[.agg #[.slice none 0 0, .slice none 0 0, .slice none 0 0, .slice none 0 0, .int .i64 0, .bool false, .slice none 0 0, .slice none 0 0, .int .i64 0, .int .i64 0], .agg #[.int .i64 0, .slice none 0 0]], []⟩ 8 (by kernel_rfl) (by kernel_rfl) (by kernel_rfl) (by kernel_rfl)) ?_
  intro W base args ds gs before hval0 hW hcnd hsz0 _
  have hsz : (DataW.weightsEach Tryz.prog (Tryz.f3.params.toList ++ Rows.fnExactAuditReportSpec.plain.varTypes Tryz.prog) (ds ++ gs)).all (· ≤ reachBytes) = true := hsz0
  have hval : ∀ (j : Nat) t v, Tryz.f3.params[j]? = some t → args[j]? = some v → Value.okWide Tryz.prog W .any base t v := hval0
  have hW' := hW
  obtain ⟨p, q, hA0, hV, rfl, hfz, hnd⟩ := hW
  have hA : DataW.TrodAll enc Tryz.prog W 0 (fun _ => true) true Tryz.f3.params.toList args.toList ds p := hA0
  rw [Tryz.params3] at hA hval hsz
  have hlt := DataW.TrodAll.lt hA
  obtain ⟨v0, v1, d0, d1, p0, p1, rfl, rfl, rfl, hd0, hd1⟩ := trodAll_two hA
  have hlt0 : ∀ x ∈ p0, x.block < W.heap.size := fun x hx => hlt x (by simp [hx]); have hlt1 : ∀ x ∈ p1, x.block < W.heap.size := fun x hx => hlt x (by simp [hx])
  obtain ⟨rfl, rfl⟩ := trodVars_none hV
  have hw0 : ∀ k ∈ d0.weights Tryz.prog 30, k ≤ reachBytes := fun k hk => of_decide_eq_true (List.all_eq_true.1 hsz k (by exact List.mem_append_left _ hk))
  obtain ⟨r0, hr0, hrel0⟩ := rdProblem.argS Tryz.underlying30 (hval 0 30 v0 rfl rfl) hd0 hw0
  have hw1 : ∀ k ∈ d1.weights Tryz.prog 33, k ≤ reachBytes := fun k hk => of_decide_eq_true (List.all_eq_true.1 hsz k (by exact List.mem_append_right _ (List.mem_append_left _ hk)))
  obtain ⟨r1, hr1, hrel1⟩ := rdReport.argS Tryz.underlying33 (hval 1 33 v1 rfl rfl) hd1 hw1
  have hc : CC 3 [.d (pbD r0.f r0.start r0.low r0.high r0.solver r0.eps.neg r0.eps.num r0.eps.den r0.iter r0.back), .d (.agg [.i r1.status, .sl (r1.recs.map encRc)])] [] (.d (.b true)) [] := Con.ok (C := CC) ⟨hr0, hr1⟩
  refine (callTrue2 hc hrel0 hrel1).mono fun e W' ⟨he, bel⟩ => ?_
  subst he
  exact ⟨_, rfl, _, _, _, [], _, [], hW', trodAll_mk1 (shut_bool Tryz.underlying4 _), trodAll_mk2 (RowKit.Below.trod laidOut readable0 (of_decide_eq_true (by kernel_rfl)) hd0 bel hlt0) (RowKit.Below.trod laidOut readable1 (of_decide_eq_true (by kernel_rfl)) hd1 bel hlt1), rfl, bel.frame _, fun h => by cases h⟩
theorem over : Rows.fnExactAuditReportRow.holds Tryz.pinned (OpenSpec.ofChange Rows.fnExactAuditReportSpec) :=
  OpenClaim.holds_of_wide 3 Tryz.f3 rfl rfl rfl rfl rfl rfl rfl ⟨rfl, rfl, rfl, rfl, rfl⟩ rfl rfl rfl rfl rfl (by kernel_rfl) Tryz.func3 (by kernel_rfl)
    (of_decide_eq_true (by kernel_rfl)) (by unfold Func.isWrapper; first | (rw [if_pos (by decide +kernel)]; kernel_rfl) | (rw [if_neg (by decide +kernel)]; exact ⟨rfl, rfl⟩))
    (fun os started H enc _ => lifted os started H enc)
theorem proved : Rows.FnExactAuditReportSaid := over
#print axioms proved
end Go.Proofs.YtldgmfplnlnhcaaGreat.fnExactAuditReport
namespace Go.Proofs.YtldgmfplnlnhcaaGreat
/-- The row, under a short name, for the claim. -/
theorem fnExactAuditReport_holds : Rows.FnExactAuditReportSaid := fnExactAuditReport.proved
end Go.Proofs.YtldgmfplnlnhcaaGreat
