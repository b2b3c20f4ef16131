/- FnExactJoinTokens: the tied card. The program's JoinTokens returns what the reference's returns. -/
import Derived.Test.YtlcdfpodpbcodaaDoorAXJ
import Derived.Test.YtlcdfpodpbcodaaDoorRows
import Derived.Test.YtlcdfpodpbcodaaDoorCards
import Derived.Test.YtlcdfpodpbcodaaDoorTie
import Derived.Lay
import Derived.Lib.LaidTab
import Derived.LaidLaws
import Derived.LaidSub
import Derived.MakeChecks
import Derived.SevenTiedAt
set_option linter.unusedSimpArgs false
set_option linter.unusedVariables false
set_option linter.unusedSectionVars false
/- AJR -/
namespace Go.PL
open Go Go.Proofs
section
variable {H : Type} {enc : TypeId × Value → H} {w : World}
theorem rdToken : Rd enc Tryd.prog w 32 (fun k : Tk => [.i k.kind, .i k.n, .s k.t]) (fun k => k.t.size ≤ reachBytes) :=
  (Rd.struct Tryd.underlying32 (by kernel_rfl) (RdF.cons (n := 1) rfl (by kernel_rfl) (Rd.int Tryd.underlying3) (RdF.cons (n := 1) rfl (by kernel_rfl) (Rd.int Tryd.underlying3) (RdF.cons (n := 1) rfl (by kernel_rfl) (Rd.str Tryd.underlying9) RdF.nil)))).map
    (fun x => (⟨x.1, x.2.1, x.2.2.1⟩ : Tk)) (fun _ => rfl) (fun x h => h.2.2.1)
theorem rdTokens : Rd enc Tryd.prog w 22 (fun l : List Tk => [.sl (l.map encTk)]) pTks :=
  (Rd.slice (sz := 3) (by_ := 32) encTk Tryd.underlying22 (by kernel_rfl) (by kernel_rfl) (by decide) (fun _ => rfl) (fun _ => rfl) rdToken).map id (fun _ => rfl) fun l h => ⟨by have e : reachBytes ≤ 1152921504606846976 := (by decide); have := h.1; simp only [id]; omega, fun k hk => Nat.le_trans (h.2 k hk) (by decide)⟩
end
/-- The law's contract as the machine bears it, where the table lies. -/
theorem callTrueT {f : FuncId} {x : D} (h : CC f [.d x] [] (.d (.b true)) []) {g : Nat} (hg : Tryd.prog.globalNamed tabName = some g) {W : World} (ht : Lib.TabIs Tryd.prog W tabName .u64 Lib.pow10Tab) {v : Value} (hv : RelD W (PrW W) x v) :
    Calls Tryd.prog f #[v] W fun e W' => e = .returned (.bool true) ∧ RowKit.Below W.heap.size W W' := by
  obtain ⟨et, fr, hG⟩ := gok_of hg ht ⟨fun _ => 0, fun _ => 0⟩
  have hs := Den.says (T := TT) (gl := glT g et fr) (by kernel_rfl) (xn_says rfl hg) h
  refine (hs.2 W (PrW W) ⟨fun _ => 0, fun _ => 0⟩ #[v] (memW W _) hG rfl fun i hi => ?_).mono fun e W' ⟨u, Pr', p', h1, h2, h3⟩ => ?_
  · obtain rfl : i = 0 := by simpa using hi
    exact .d hv
  · subst h1
    cases h3 with
    | d h3 => cases h3; exact ⟨rfl, Below.of_inv h2⟩
end Go.PL
namespace Go.Proofs.YtlcdfpodpbcodaaDoor.fnExactJoinTokens
open Go.ChangeShapes Go.WideShapes Go.ChangeAt Go.RowKit Go.PL
set_option linter.unusedVariables false
theorem own : ownKnob Tryd.prog.godebug = none := by kernel_rfl
theorem laidOut : laidOutB Tryd.prog = true := by kernel_rfl
theorem readable : Tryd.prog.readableRec 22 = true := by kernel_rfl
abbrev laid : List (String × DataW Unit) := Rows.fnExactJoinTokensRow.laid
theorem keepOne : (laid.filter fun x => x.1 == tabName) = [(tabName, Lib.tabData .u64 Lib.pow10Tab)] := by kernel_rfl
theorem tabAt : Tryd.prog.globalNamed tabName = some 1 := by kernel_rfl
set_option maxRecDepth 100000 in
theorem lifted (os : Os) (started : os.Started) (H : Type) (enc : TypeId × Value → H) :
    ReturnsInHanded {} Tryd.checked os 3 .any (fun w args => (Rows.fnExactJoinTokensSpec.pre enc Tryd.prog Tryd.f3 Rows.fnExactJoinTokensRow.domain false w args ∧ laidMetH Tryd.prog laid w) ∧ sizedMet enc Tryd.prog Tryd.f3 (OpenSpec.ofChange Rows.fnExactJoinTokensSpec) false w args)
      (Rows.fnExactJoinTokensSpec.post enc Tryd.prog Tryd.f3 false true false false) := by
  refine returnsInHanded_of_change_and (C := Tryd.checked) (X := fun w args => laidMetH Tryd.prog laid w) (fun _ _ _ hh h => h.of_heap hh) own started (by kernel_rfl) Tryd.func3
    (ChangeSpec.witness_shaped (enc := enc) (C := Tryd.checked) (os := os) (X := fun w _ => laidMetH Tryd.prog laid w) false (World.laidAll Tryd.prog os laid) #[.slice none 0 0] 8 (World.laidAll_os _ _ _)
      (World.shaped_of_ZipB (by kernel_rfl) (by kernel_rfl)) (by kernel_rfl) (by kernel_rfl) (by kernel_rfl)
      (by rw [MakeChecks.laidMetH_plain _ _ _ (by kernel_rfl)]; exact laidMet_laidAll _ (by kernel_rfl) (by kernel_rfl))) ?_
  intro W base args ds gs before hval0 hW hcnd hsz0 hL0 _
  have hsz : (DataW.weightsEach Tryd.prog (Tryd.f3.params.toList ++ Rows.fnExactJoinTokensSpec.plain.varTypes Tryd.prog) (ds ++ gs)).all (· ≤ reachBytes) = true := hsz0
  have hval : ∀ (j : Nat) t v, Tryd.f3.params[j]? = some t → args[j]? = some v → Value.okWide Tryd.prog W .any base t v := hval0
  have hW' := hW
  obtain ⟨p, q, hA0, hV, rfl, hfz, hnd⟩ := hW
  have hA : DataW.TrodAll enc Tryd.prog W 0 (fun _ => true) true Tryd.f3.params.toList args.toList ds p := hA0
  rw [Tryd.params3] at hA hval hsz
  have hlt := DataW.TrodAll.lt hA
  obtain ⟨v, d, rfl, rfl, hd⟩ := trodAll_one hA
  obtain ⟨rfl, rfl⟩ := trodVars_none hV
  have hw : ∀ k ∈ d.weights Tryd.prog 22, k ≤ reachBytes := fun k hk => of_decide_eq_true (List.all_eq_true.1 hsz k (List.mem_append_left _ hk))
  obtain ⟨A0, len, cap, rfl⟩ := okWide_slice Tryd.underlying22 (hval 0 22 v rfl rfl)
  obtain ⟨fuel, hx⟩ := hd
  obtain ⟨l, hl, hcr⟩ := rdTokens fuel _ _ hx hw
  have hrel := hcr.rel 0 (by simp) (by simp [Value.cells])
  have hd : DataW.Trod enc Tryd.prog W 0 (fun _ => true) true 22 (.slice A0 len cap) d p := ⟨fuel, hx⟩
  have hc : CC 3 [.d (.sl (l.map encTk))] [] (.d (.b true)) [] := Con.ok (C := CC) hl
  have hL : laidMet Tryd.prog laid W := by rw [MakeChecks.laidMetH_plain _ _ _ (by kernel_rfl)] at hL0; exact hL0
  have hF := hL.filter (fun x => x.1 == tabName)
  rw [keepOne] at hF
  have ht := Lib.tabIs_of_head tabAt (by kernel_rfl) Tryd.underlying80 Tryd.underlying71 (by kernel_rfl) (by kernel_rfl) hF
  refine (callTrueT hc tabAt ht hrel).mono fun e W' ⟨he, bel⟩ => ?_
  subst he
  exact ⟨_, rfl, _, _, _, [], _, [], hW', trodAll_mk1 (shut_bool Tryd.underlying4 _), trodAll_mk1 (RowKit.Below.trod laidOut readable (of_decide_eq_true (by kernel_rfl)) hd bel hlt), rfl, bel.frame _, fun h => by cases h⟩
theorem over : Rows.fnExactJoinTokensRow.holds Tryd.pinned (OpenSpec.ofChange Rows.fnExactJoinTokensSpec) :=
  OpenClaim.holds_of_wide 3 Tryd.f3 rfl rfl rfl rfl rfl rfl rfl ⟨rfl, rfl, rfl, rfl, rfl⟩ rfl rfl rfl rfl rfl (by kernel_rfl) Tryd.func3 (by kernel_rfl)
    (of_decide_eq_true (by kernel_rfl)) (by unfold Func.isWrapper; first | (rw [if_pos (by decide +kernel)]; kernel_rfl) | (rw [if_neg (by decide +kernel)]; exact ⟨rfl, rfl⟩))
    (fun os started H enc _ => lifted os started H enc)
theorem proved : Rows.FnExactJoinTokensSaid := over
theorem card : Rows.FnExactJoinTokensCardSaid :=
  Claim7.holds_tied_plain_at .later [] [.data, .data, .data] true Rows.fnExactJoinTokensCard.stood.harness false over (fun _ h => by cases h) (by kernel_rfl) (fun _ h => by cases h) fnExactJoinTokens_row_tie rfl ⟨rfl, rfl⟩ (by kernel_rfl) rfl
    (fun f fn hf hfn => by
      obtain rfl : f = 3 := Option.some.inj ((show Tryd.prog.funcNamed Rows.fnExactJoinTokensRow.func = some 3 by kernel_rfl).symm.trans hf) |>.symm
      obtain rfl : fn = Tryd.f3 := (Option.some.inj (Tryd.func3.symm.trans hfn)).symm
      exact ⟨by kernel_rfl, fun j t ht => by
        rw [Tryd.params3] at ht
        have hm : t ∈ [22] := by simpa using Array.mem_of_getElem? ht
        have hall : ([22].all fun u => !Tryd.prog.wantsStandIn u) = true := by kernel_rfl
        exact (show Tryd.prog.wantsStandIn t = false by simpa using List.all_eq_true.1 hall t hm)⟩)
    (by kernel_rfl)
#print axioms card
end Go.Proofs.YtlcdfpodpbcodaaDoor.fnExactJoinTokens
namespace Go.Proofs.YtlcdfpodpbcodaaDoor
/-- The card, under a short name, for the claim. -/
theorem fnExactJoinTokens_card : Rows.FnExactJoinTokensCardSaid := fnExactJoinTokens.card
end Go.Proofs.YtlcdfpodpbcodaaDoor
