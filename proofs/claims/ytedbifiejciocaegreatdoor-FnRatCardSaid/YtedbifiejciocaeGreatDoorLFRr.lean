/- The law FnRat returns true for all byte lists: rationals are read back from their texts and are what their parts make; no condition. -/
import Derived.Test.YtedbifiejciocaeGreatDoorG46
set_option linter.unusedSimpArgs false
set_option linter.unusedVariables false
set_option linter.unusedSectionVars false
/- FRr -/
namespace Go.Proofs.YtedbifiejciocaeGreatDoor.fnRat
open Go.ChangeShapes Go.WideShapes Go.ChangeAt Go.RowKit Go.PL
set_option linter.unusedVariables false
theorem own : ownKnob Tryz.prog.godebug = none := by kernel_rfl
theorem laidOut : laidOutB Tryz.prog = true := by kernel_rfl
theorem readable0 : Tryz.prog.readableRec 22 = true := by kernel_rfl
theorem readable1 : Tryz.prog.readableRec 22 = true := by kernel_rfl
abbrev laid : List (String × DataW Unit) := Rows.fnRatRow.laid
theorem keepTab : (laid.filter fun x => x.1 == tabName) = [(tabName, Lib.tabData .u64 Lib.pow10Tab)] := by kernel_rfl
theorem laidOk_of {W : World} (hL : laidMet Tryz.prog laid W) : LaidOk W := by
  have hF := hL.filter (fun x => x.1 == tabName)
  rw [keepTab] at hF
  have tabAt : Tryz.prog.globalNamed tabName = some 3 := by kernel_rfl
  refine ⟨⟨3, tabAt, Lib.tabIs_of_head tabAt (by kernel_rfl) Tryz.underlying133 Tryz.underlying108 (by kernel_rfl) (by kernel_rfl) hF⟩, fun x hx => ?_⟩
  exact (nomatch hx)
set_option maxRecDepth 100000 in
theorem lifted (os : Os) (started : os.Started) (H : Type) (enc : TypeId × Value → H) :
    ReturnsInHanded {} Tryz.checked os 3 .any (fun w args => (Rows.fnRatSpec.pre enc Tryz.prog Tryz.f3 Rows.fnRatRow.domain false w args ∧ laidMetH Tryz.prog laid w) ∧ sizedMet enc Tryz.prog Tryz.f3 (OpenSpec.ofChange Rows.fnRatSpec) false w args)
      (Rows.fnRatSpec.post enc Tryz.prog Tryz.f3 false true false false) := by
  refine returnsInHanded_of_change_and (C := Tryz.checked) (X := fun w args => laidMetH Tryz.prog laid w) (fun _ _ _ hh h => h.of_heap hh) own started (by kernel_rfl) Tryz.func3
    (ChangeSpec.witness_shaped (enc := enc) (C := Tryz.checked) (os := os) (X := fun w _ => laidMetH Tryz.prog laid w) false (World.laidAll Tryz.prog os laid) #[.slice none 0 0, .slice none 0 0] 8 (World.laidAll_os _ _ _)
      (World.shaped_of_ZipB (by kernel_rfl) (by kernel_rfl)) (by kernel_rfl) (by kernel_rfl) (by kernel_rfl)
      (by rw [MakeChecks.laidMetH_plain _ _ _ (by kernel_rfl)]; exact laidMet_laidAll _ (by kernel_rfl) (by kernel_rfl))) ?_
  intro W base args ds gs before hval0 hW hcnd hsz0 hL0 _
  have hsz : (DataW.weightsEach Tryz.prog (Tryz.f3.params.toList ++ Rows.fnRatSpec.plain.varTypes Tryz.prog) (ds ++ gs)).all (· ≤ reachBytes) = true := hsz0
  have hval : ∀ (j : Nat) t v, Tryz.f3.params[j]? = some t → args[j]? = some v → Value.okWide Tryz.prog W .any base t v := hval0
  have hW' := hW
  obtain ⟨p, q, hA0, hV, rfl, hfz, hnd⟩ := hW
  have hA : DataW.TrodAll enc Tryz.prog W 0 (fun _ => true) true Tryz.f3.params.toList args.toList ds p := hA0
  rw [Tryz.params3] at hA hval hsz
  have hlt := DataW.TrodAll.lt hA
  obtain ⟨v0, v1, d0, d1, p0, p1, rfl, rfl, rfl, hd0, hd1⟩ := trodAll_two hA
  have hlt0 : ∀ x ∈ p0, x.block < W.heap.size := fun x hx => hlt x (by simp [hx]); have hlt1 : ∀ x ∈ p1, x.block < W.heap.size := fun x hx => hlt x (by simp [hx])
  obtain ⟨rfl, rfl⟩ := trodVars_none hV
  have hw0 : ∀ k ∈ d0.weights Tryz.prog 22, k ≤ reachBytes := fun k hk => of_decide_eq_true (List.all_eq_true.1 hsz k (by exact List.mem_append_left _ hk))
  obtain ⟨r0, hr0, hrel0⟩ := bytesArg.argV Tryz.underlying22 (hval 0 22 v0 rfl rfl) hd0 hw0
  have hw1 : ∀ k ∈ d1.weights Tryz.prog 22, k ≤ reachBytes := fun k hk => of_decide_eq_true (List.all_eq_true.1 hsz k (by exact List.mem_append_right _ (List.mem_append_left _ hk)))
  obtain ⟨r1, hr1, hrel1⟩ := bytesArg.argV Tryz.underlying22 (hval 1 22 v1 rfl rfl) hd1 hw1
  have hc : CC 3 [.d (encB r0), .d (encB r1)] [] (.d (.b true)) [] := Con.ok (C := CC) ⟨hr0, hr1⟩
  have hL : laidMet Tryz.prog laid W := by rw [MakeChecks.laidMetH_plain _ _ _ (by kernel_rfl)] at hL0; exact hL0
  refine (callTrueL2 hc (laidOk_of hL) hrel0 hrel1).mono fun e W' ⟨he, bel⟩ => ?_
  subst he
  exact ⟨_, rfl, _, _, _, [], _, _, hW', trodAll_mk1 (shut_bool Tryz.underlying4 _), trodAll_mk2 (RowKit.Below.trod laidOut readable0 (of_decide_eq_true (by kernel_rfl)) hd0 bel hlt0) (RowKit.Below.trod laidOut readable1 (of_decide_eq_true (by kernel_rfl)) hd1 bel hlt1), rfl, bel.frame _, fun h => by cases h⟩
theorem over : Rows.fnRatRow.holds Tryz.pinned (OpenSpec.ofChange Rows.fnRatSpec) :=
  OpenClaim.holds_of_wide 3 Tryz.f3 rfl rfl rfl rfl rfl rfl rfl ⟨rfl, rfl, rfl, rfl, rfl⟩ rfl rfl rfl rfl rfl (by kernel_rfl) Tryz.func3 (by kernel_rfl)
    (of_decide_eq_true (by kernel_rfl)) (by unfold Func.isWrapper; first | (rw [if_pos (by decide +kernel)]; kernel_rfl) | (rw [if_neg (by decide +kernel)]; exact ⟨rfl, rfl⟩))
    (fun os started H enc _ => lifted os started H enc)
theorem proved : Rows.FnRatSaid := over
theorem card : Rows.FnRatCardSaid :=
  Claim7.holds_tied_plain_at .later [] [.data, .data, .data, .sentinel, .sentinel] true Rows.fnRatCard.stood.harness true over (fun _ h => by cases h) (by kernel_rfl) (fun _ h => by cases h) fnRat_row_tie rfl ⟨rfl, rfl⟩ (by kernel_rfl) rfl
    (fun f fn hf hfn => by
      obtain rfl : f = 3 := Option.some.inj ((show Tryz.prog.funcNamed Rows.fnRatRow.func = some 3 by kernel_rfl).symm.trans hf) |>.symm
      obtain rfl : fn = Tryz.f3 := (Option.some.inj (Tryz.func3.symm.trans hfn)).symm
      exact ⟨by kernel_rfl, fun j t ht => by
        rw [Tryz.params3] at ht
        have hm : t ∈ [22, 22] := by simpa using Array.mem_of_getElem? ht
        have hall : ([22, 22].all fun u => !Tryz.prog.wantsStandIn u) = true := by kernel_rfl
        exact (show Tryz.prog.wantsStandIn t = false by simpa using List.all_eq_true.1 hall t hm)⟩)
    (by kernel_rfl)
#print axioms card
end Go.Proofs.YtedbifiejciocaeGreatDoor.fnRat
namespace Go.Proofs.YtedbifiejciocaeGreatDoor
/-- The card, under a short name, for the claim. -/
theorem fnRat_card : Rows.FnRatCardSaid := fnRat.card
end Go.Proofs.YtedbifiejciocaeGreatDoor
