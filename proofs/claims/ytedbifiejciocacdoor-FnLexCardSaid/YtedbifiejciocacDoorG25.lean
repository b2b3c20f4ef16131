/- A plain machine, sound for the given model, and contracts of functions over it, part 25: LX5 RDB TB. Nothing is assumed. -/
import Derived.Test.YtedbifiejciocacDoorG24
import Derived.Test.YtedbifiejciocacDoorRows
set_option linter.unusedSimpArgs false
set_option linter.unusedVariables false
set_option linter.unusedSectionVars false
/- LX5 -/
namespace Go.PL
open Go Go.Proofs
set_option maxRecDepth 10000
set_option maxHeartbeats 4000000
set_option linter.unusedSimpArgs false
set_option linter.unusedVariables false
instance (l : List Int) : Con CC 3 [.d (encB l)] (Byt l ∧ l.length < 4611686018427387904) (.d (.b true)) := by
  constructor
  intro ⟨hb, hl0⟩
  by_cases hl : l.length ≤ 1048576
  · have hdr := toksD_ok (l := l) (b := 999999999000) (σ := (0, (l.length : Int) % 1000)) ⟨hb, by omega, by simp, by omega, by simp only; omega, by simp only; omega⟩ (by omega)
    have hT : CC 4 [.d (encB l)] [] (.d (.sl ((toksD l (0, (l.length : Int) % 1000)).1.map encTk))) [] := Con.ok (C := CC) ⟨hb, by omega⟩
    generalize (toksD l (0, (l.length : Int) % 1000)).1 = ks at hdr hT
    obtain ⟨hd, hk⟩ := hdr
    obtain ⟨ht, hc, hbt⟩ := jtext_drawn hd hk
    have hj := join_len hd hk
    have hx := lex_join hd
    generalize Lib.join (ks.map tkL) [32] = J at ht hj hx
    have hL := Lex_c (32 :: 32 :: (J ++ [32])) ks (by simp; omega) (by omega) hx
    have hcat : (⟨#[32, 32]⟩ : ByteArray) ++ strT J ++ ⟨#[32]⟩ = strT (32 :: 32 :: (J ++ [32])) := by
      rw [sSp, show (⟨#[32, 32]⟩ : ByteArray) = strT [32, 32] from rfl, strT_app, strT_app]; rfl
    have hjs : (strT J).size = J.length := strT_size
    have h22 : (⟨#[32, 32]⟩ : ByteArray).size = 2 := rfl
    have h11 : (⟨#[32]⟩ : ByteArray).size = 1 := rfl
    have hbe : (encB l) = .sl (l.map u8D) := rfl
    refine Den.pureI Tryd.func3 rfl 1 [.tmp 2] (by kernel_rfl) rfl rfl (by simp only [initE_nil, initE_cons, Nat.reduceAdd]; exact rfl) ?_
    repeat' first | (with_reducible first | refine nx' ?_ (by simp -implicitDefEqProofs (disch := omega) only [go_sem, ht, hc, hcat, hjs, h22, h11, strT_eq]; exact rfl) | refine n0 ?_ | refine rD ?_ | refine n1 ?_ | refine nilB_i fun b hb => ?_ | refine nPc (hT) ?_ | refine nPc (hL) ?_ | refine nP ?_ ?_ | refine nS fun K hK => ?_ | (refine n2 ?_ ?_ <;> intro h <;> first | subst (h : _ = true) | subst (h : _ = false) | (simp only [FX, LX, ht, hc, hcat, hjs, h22, h11, strT_eq] at h) | skip) | refine And.intro ?_ ?_ | refine nK ‹Imp _ _› ?_) | exact nl | fail
    all_goals first
      | (simp only [hjs, List.size_toArray, List.length_cons, List.length_nil]; omega)
      | exact absurd trivial h
      | (simp at h; done)
      | skip
    refine Wp.loopR (fun i : Nat => ⟨[(3, .d (.sl (ks.map encTk))), (8, .d (.sl (ks.map encTk))), (10, .d (.i i))], []⟩) (fun i => ks.length - i) (fun i => i ≤ ks.length) 0 Weak.lo (by omega) ?_
    intro i hi K hK
    by_cases hik : i < ks.length
    · have hm := getD_mem tk0 hik
      obtain ⟨g1, g2, g3, g4⟩ := drawn_ok (hd _ hm)
      have gq : ((textTk (ks.getD i tk0)).toList == (⟨#[]⟩ : ByteArray).toList) = false := by
        rw [toList_beq, decide_eq_false_iff_not]
        intro q
        unfold tkL at g3
        rw [q] at g3
        simp at g3
      have g5 : (ks.getD i tk0).t.size ≤ 9223372036854775807 := by omega
      repeat' first | (with_reducible first | refine nx' ?_ (by simp -implicitDefEqProofs (disch := omega) only [go_sem, gq, g1]; exact rfl) | refine n0 ?_ | refine rD ?_ | refine n1 ?_ | refine nilB_i fun b hb => ?_ | refine nP ?_ ?_ | refine nS fun K hK => ?_ | (refine n2 ?_ ?_ <;> intro h <;> first | subst (h : _ = true) | subst (h : _ = false) | (simp only [FX, LX, gq, g1] at h) | skip) | refine And.intro ?_ ?_ | refine nK ‹Imp _ _› ?_) | exact nl | fail
      all_goals first
        | exact ⟨i + 1, by omega, by omega, Weak.lo⟩
        | exact absurd trivial h
        | (exfalso; simp at h; done)
    · repeat' first | (with_reducible first | refine nx' ?_ | refine n0 ?_ | refine rD ?_ | refine n1 ?_ | refine nilB_i fun b hb => ?_ | refine nP ?_ ?_ | refine nS fun K hK => ?_ | (refine n2 ?_ ?_ <;> intro h <;> first | subst (h : _ = true) | subst (h : _ = false) | skip) | refine And.intro ?_ ?_ | refine nK ‹Imp _ _› ?_) | exact nl | fail
  · refine Den.pureI Tryd.func3 rfl 1 [.tmp 2] (by kernel_rfl) rfl rfl (by simp only [initE_nil, initE_cons, Nat.reduceAdd]; exact rfl) ?_
    repeat' first | (with_reducible first | refine nx' ?_ | refine n0 ?_ | refine rD ?_ | refine n1 ?_ | refine nilB_i fun b hb => ?_ | refine nP ?_ ?_ | refine nS fun K hK => ?_ | (refine n2 ?_ ?_ <;> intro h <;> first | subst (h : _ = true) | subst (h : _ = false) | skip) | refine And.intro ?_ ?_ | refine nK ‹Imp _ _› ?_) | exact nl | fail
end Go.PL

/- RDB -/
namespace Go.PL
open Go Go.Proofs
theorem Rd.u8 {H : Type} {enc : TypeId × Value → H} {P : Program} {w : World} {t : TypeId} (ht : P.underlying t = some (.int .u8)) : Rd enc P w t (fun n : Int => [u8D n]) (fun n => 0 ≤ n ∧ n < 256) := by
  intro fuel cs x h _
  obtain ⟨n, rfl, _, hw⟩ := DataW.trod_int ht h
  refine ⟨n, ?_, .one (.val _)⟩
  simp only [Lit.wf, Bool.and_eq_true, decide_eq_true_eq] at hw
  have e1 : IntKind.u8.min = 0 := rfl
  have e2 : IntKind.u8.max = 255 := rfl
  omega
set_option maxRecDepth 10000 in
set_option linter.constructorNameAsVariable false in
theorem bytesArg.argV {H : Type} {enc : TypeId × Value → H} {w : World} {base : Nat} {v : Value} {d : DataW H} {ps : List MemPlace} (ht : Tryd.prog.underlying 22 = some (.slice 5)) (hv : Value.okWide Tryd.prog w .any base 22 v)
    (hx : DataW.Trod enc Tryd.prog w 0 (fun _ => true) true 22 v d ps) (hw : ∀ k ∈ d.weights Tryd.prog 22, k ≤ reachBytes) : ∃ l : List Int, (Byt l ∧ l.length < 4611686018427387904) ∧ RelD w (PrW w) (encB l) v := by
  obtain ⟨fuel, hx⟩ := hx
  obtain ⟨l, ⟨h1, h2⟩, h3⟩ := (Rd.slice (sz := 1) (by_ := 1) u8D ht (by kernel_rfl) (by kernel_rfl) (Nat.lt_succ_self 0) (fun _ => rfl) (fun _ => rfl) (Rd.u8 Tryd.underlying5)) fuel _ _ hx hw
  refine ⟨l, ⟨fun x hx => h2 x hx, by unfold reachBytes at h1; omega⟩, ?_⟩
  have hc : v.cells.toList = [v] := by
    unfold Value.okWide at hv
    rw [ht] at hv
    simp only at hv
    cases v with
    | agg cs =>
      exfalso
      unfold Cell.okWide at hv
      rw [ht] at hv
      unfold Cell.ok at hv
      rw [ht] at hv
      simp at hv
    | _ => rfl
  have h4 := h3.rel 0 (by simp) (by rw [hc]; simp)
  have e1 : ∀ (u u' : Value), u = u' → RelD w (PrW w) (encB l) u → RelD w (PrW w) (encB l) u' := fun _ _ q r => q ▸ r
  exact e1 _ _ (by simp [hc]) h4
end Go.PL

/- TB -/
namespace Go.PL
open Go Go.Proofs
/-- The table's name, as the given row has it. -/
def tabName : String := ((YtedbifiejciocacDoor.Rows.fnLexRow.laid[2]?).map (·.1)).getD default
end Go.PL
