/- The law FnExactRecordOK of the given program returns true, whatever its input, and leaves its input as it was. No condition. -/
import Derived.Test.YticeamhfobihpaaPlRead
import Derived.Test.YticeamhfobihpaaRows
set_option linter.unusedSimpArgs false
set_option linter.unusedVariables false
set_option linter.unusedSectionVars false
/- AC -/
namespace Go.PL
open Go Go.Proofs
section
variable {H : Type} {enc : TypeId × Value → H} {w : World}
theorem rdNat : Rd enc Try.prog w 28 (fun l : List Int => [encD l]) (fun l => l.length < 1152921504606846976) :=
  (Rd.slice (sz := 1) (by_ := 8) (fun n : Int => D.i n) Try.underlying28 (by kernel_rfl) (by kernel_rfl) (Nat.lt_succ_self 0) (fun _ => rfl) (fun _ => rfl) (Rd.int Try.underlying3)).map id (fun _ => rfl) (fun l h => by have := h.1; unfold reachBytes at this; simp only [id]; omega)
theorem rdRat : Rd enc Try.prog w 30 (fun r : Rt => [.b r.neg, encD r.num, encD r.den]) pR :=
  (Rd.struct Try.underlying30 (by kernel_rfl) (RdF.cons (n := 1) rfl (by kernel_rfl) (Rd.bool Try.underlying4) (RdF.cons (n := 1) rfl (by kernel_rfl) rdNat (RdF.cons (n := 1) rfl (by kernel_rfl) rdNat RdF.nil)))).map
    (fun x => (⟨x.1, x.2.1, x.2.2.1⟩ : Rt)) (fun _ => rfl) (fun x h => ⟨h.2.1, h.2.2.1⟩)
theorem rdRats : Rd enc Try.prog w 27 (fun l : List Rt => [.sl (l.map encR)]) pV :=
  (Rd.slice (sz := 3) (by_ := 56) (fun r : Rt => encR r) Try.underlying27 (by kernel_rfl) (by kernel_rfl) (by decide) (fun _ => rfl) (fun _ => rfl) rdRat).map id (fun _ => rfl) (fun l h => ⟨by have := h.1; unfold reachBytes at this; simp only [id]; omega, h.2⟩)
theorem rdRecord : Rd enc Try.prog w 32 (fun r : Rc => [.i r.iter, .i r.count, .sl (r.x.map encR), .b r.f.neg, encD r.f.num, encD r.f.den]) pRc :=
  (Rd.struct Try.underlying32 (by kernel_rfl) (RdF.cons (n := 1) rfl (by kernel_rfl) (Rd.int Try.underlying3) (RdF.cons (n := 1) rfl (by kernel_rfl) (Rd.int Try.underlying3) (RdF.cons (n := 1) rfl (by kernel_rfl) rdRats (RdF.cons (n := 3) rfl (by kernel_rfl) rdRat RdF.nil))))).map
    (fun x => (⟨x.1, x.2.1, x.2.2.1, x.2.2.2.1⟩ : Rc)) (fun _ => rfl) (fun x h => ⟨h.2.2.1, h.2.2.2.1⟩)
end
/-- The law's contract as the machine bears it. -/
theorem callTrue {f : FuncId} {x : D} (h : CC f [.d x] [] (.d (.b true)) []) {W : World} {v : Value} (hv : RelD W (PrW W) x v) : Calls Try.prog f #[v] W fun e W' => e = .returned (.bool true) ∧ RowKit.Below W.heap.size W W' := by
  have hs := Den.says (T := TT) (by kernel_rfl) (fun f a os r os' h => h.elim) h
  refine (hs.2 W (PrW W) ⟨fun _ => 0, fun _ => 0⟩ #[v] (memW W _) rfl fun i hi => ?_).mono fun e W' ⟨u, Pr', p', h1, h2, h3⟩ => ?_
  · obtain rfl : i = 0 := by simpa using hi
    exact .d hv
  · subst h1
    cases h3 with
    | d h3 => cases h3; exact ⟨rfl, Below.of_inv h2⟩
end Go.PL
namespace Go.Proofs.Yticeamhfobihpaa.fnExactRecordOK
open Go.ChangeShapes Go.WideShapes Go.ChangeAt Go.RowKit Go.PL
set_option linter.unusedVariables false
theorem own : ownKnob Try.prog.godebug = none := by kernel_rfl
theorem laidOut : laidOutB Try.prog = true := by kernel_rfl
theorem readable : Try.prog.readableRec 32 = true := by kernel_rfl
set_option maxRecDepth 100000 in
theorem lifted (os : Os) (started : os.Started) (H : Type) (enc : TypeId × Value → H) :
    ReturnsInHanded {} Try.checked os 4 .any (Rows.fnExactRecordOKSpec.pre6 enc Try.prog Try.f4 Rows.fnExactRecordOKRow.domain false) (Rows.fnExactRecordOKSpec.post enc Try.prog Try.f4 false true false false) := by
  refine returnsInHanded_of_change_sized (C := Try.checked) own started (by kernel_rfl) Try.func4
    (ChangeSpec.witness6 (enc := enc) (C := Try.checked) false ⟨#[], #[.agg #[.int .i64 0, .int .i64 0, .slice none 0 0, .bool false, .slice none 0 0, .slice none 0 0]], []⟩ 8 (by kernel_rfl) (by kernel_rfl) (by kernel_rfl) (by kernel_rfl)) ?_
  intro W base args ds gs before hval0 hW hcnd hsz0 _
  have hsz : (DataW.weightsEach Try.prog (Try.f4.params.toList ++ Rows.fnExactRecordOKSpec.plain.varTypes Try.prog) (ds ++ gs)).all (· ≤ reachBytes) = true := hsz0
  have hval : ∀ (j : Nat) t v, Try.f4.params[j]? = some t → args[j]? = some v → Value.okWide Try.prog W .any base t v := hval0
  have hW' := hW
  obtain ⟨p, q, hA0, hV, rfl, hfz, hnd⟩ := hW
  have hA : DataW.TrodAll enc Try.prog W 0 (fun _ => true) true Try.f4.params.toList args.toList ds p := hA0
  rw [Try.params4] at hA hval hsz
  have hlt := DataW.TrodAll.lt hA
  obtain ⟨v, d, rfl, rfl, hd⟩ := trodAll_one hA
  obtain ⟨rfl, rfl⟩ := trodVars_none hV
  have hw : ∀ k ∈ d.weights Try.prog 32, k ≤ reachBytes := fun k hk => of_decide_eq_true (List.all_eq_true.1 hsz k (List.mem_append_left _ hk))
  obtain ⟨r, hr, hrel⟩ := rdRecord.argS Try.underlying32 (hval 0 32 v rfl rfl) hd hw
  have hc : CC 4 [.d (.agg [.i r.iter, .i r.count, .sl (r.x.map encR), .b r.f.neg, encD r.f.num, encD r.f.den])] [] (.d (.b true)) [] := Con.ok (C := CC) hr
  refine (callTrue hc hrel).mono fun e W' ⟨he, bel⟩ => ?_
  subst he
  exact ⟨_, rfl, _, _, _, [], _, [], hW', trodAll_mk1 (shut_bool Try.underlying4 _), trodAll_mk1 (RowKit.Below.trod laidOut readable (of_decide_eq_true (by kernel_rfl)) hd bel hlt), rfl, bel.frame _, fun h => by cases h⟩
theorem over : Rows.fnExactRecordOKRow.holds Try.pinned (OpenSpec.ofChange Rows.fnExactRecordOKSpec) :=
  OpenClaim.holds_of_wide 4 Try.f4 rfl rfl rfl rfl rfl rfl rfl ⟨rfl, rfl, rfl, rfl, rfl⟩ rfl rfl rfl rfl rfl (by kernel_rfl) Try.func4 (by kernel_rfl)
    (of_decide_eq_true (by kernel_rfl)) (by unfold Func.isWrapper; first | (rw [if_pos (by decide +kernel)]; kernel_rfl) | (rw [if_neg (by decide +kernel)]; exact ⟨rfl, rfl⟩))
    (fun os started H enc _ => lifted os started H enc)
theorem proved : Rows.FnExactRecordOKSaid := over
#print axioms proved
end Go.Proofs.Yticeamhfobihpaa.fnExactRecordOK
namespace Go.Proofs.Yticeamhfobihpaa
/-- The row, under a short name, for the claim. -/
theorem fnExactRecordOK_holds : Rows.FnExactRecordOKSaid := fnExactRecordOK.proved
end Go.Proofs.Yticeamhfobihpaa
