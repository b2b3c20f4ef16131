/- A plain machine, sound for the given model, and contracts of functions over it, part 33: XJ1. Nothing is assumed. -/
import Derived.Test.YtldgmfplnlnhcaaGreatXV
import Derived.Test.YtldgmfplnlnhcaaGreatG32
set_option linter.unusedSimpArgs false
set_option linter.unusedVariables false
set_option linter.unusedSectionVars false
/- XJ1 -/
namespace Go.PL
open Go Go.Proofs
set_option maxRecDepth 10000
set_option maxHeartbeats 4000000
set_option linter.unusedSimpArgs false
set_option linter.unusedVariables false
/-- A jet along axes: nothing asked for along a way. -/
abbrev jD (f : Rat) (al : List Rat) : D := .agg [.b (sgX f), encD (nuX f), encD (deX f), .sl (al.map encX), .nil, .b (sgX 0), encD (nuX 0), encD (deX 0)]
abbrev jV (f : Rat) (al : List Rat) : V := .d (jD f al)
def encJ (j : Rat × List Rat) : D := jD j.1 j.2
theorem encJ_eq {j : Rat × List Rat} : encJ j = .agg [.b (sgX j.1), encD (nuX j.1), encD (deX j.1), .sl (j.2.map encX), .nil, .b (sgX 0), encD (nuX 0), encD (deX 0)] := rfl
instance : Enc encJ 8 (0, []) := ⟨fun _ => rfl, fun x => by simp [encJ_eq, D.cells, D.one]⟩
theorem app_J {l : List (Rat × List Rat)} {f : Rat} {al : List Rat} : l.map encJ ++ [D.agg [.val (.bool (sgX f)), .sl ((nuX f).map .i), .sl ((deX f).map .i), .sl (al.map encX), .val (.slice none 0 0), .val (.bool (sgX 0)), .sl ((nuX 0).map .i), .sl ((deX 0).map .i)]] = (l ++ [(f, al)]).map encJ := by simp [encJ_eq]
attribute [go_sem] encJ_eq app_J Rat.zero_mul Rat.mul_zero Rat.add_zero Rat.zero_add
theorem neg0 : -(0 : Rat) = 0 := rfl
attribute [go_sem] neg0
theorem jle {a b c d e f g : D} : VLe (.d (.agg [a, b, c, .nil, d, e, f, g])) (.d (.agg [a, b, c, .sl [], d, e, f, g])) := by
  refine .d (.agg rfl fun i hi => ?_)
  rcases i with _ | _ | _ | _ | i
  · exact .refl _
  · exact .refl _
  · exact .refl _
  · exact .nil
  · exact .refl _
theorem Den.leR {f : FuncId} {a : List V} {r r' : V} (hr : VLe r r') (h : CC f a [] r []) : CC f a [] r' [] := Den.le ⟨rfl, fun i hi => .refl _⟩ hr h
/-- A jet as it is made: slopes along no axes are nil. -/
def jP (f : Rat) (l : List Rat) : D := .agg [.b (sgX f), encD (nuX f), encD (deX f), (if l.length = 0 then .nil else .sl (l.map encX)), .nil, .b (sgX 0), encD (nuX 0), encD (deX 0)]
theorem jP_le {f : Rat} {l : List Rat} : VLe (.d (jP f l)) (jV f l) := by
  unfold jP
  split
  · rename_i h
    obtain rfl := List.eq_nil_of_length_eq_zero h
    exact jle
  · exact .refl _
theorem mapped_c (g : FuncId) (cap : List D) (g2 : FuncId) (cap2 : List D) (f0 f : Rat) (al : List Rat) (p : Rat → Rat) (hn : al.length ≤ 4) (hp : ∀ x ∈ al, CC g (xV x :: dV cap) [] (xV (p x)) []) :
    CC 183 [jV f0 al, xV f, xV 0, .d (.fn (.func g) [] cap), .d (.fn (.func g2) [] cap2)] [] (jV f (al.map p)) [] := by
  refine Den.leR jP_le ?_
  refine Den.pureP Tryz.func183 rfl 5 [.cell 10 120] (by kernel_rfl) rfl rfl (by simp only [initE_nil, initE_cons, Nat.reduceAdd]; exact rfl) ?_
  repeat' first | (with_reducible first | refine nx' ?_ | refine n0 ?_ | refine Wp.drawR (by decide +kernel) ?_ | refine Wp.drawSR [4, 5, 6, 7, 8] [false, false, false, false, true, true, true, true, true] (.op 4 [0,1] (.op 5 [0,1] (.op 6 [] (.op 7 [] (.op 8 [] .done))))) (by decide +kernel) ?_ | refine Wp.drawSR [4, 5, 6, 7, 8] [false, false, false, false, true, true, true, true, true] (.op 4 [0,1] (.op 5 [0,1] (.op 6 [] (.op 7 [] (.op 8 [] .done))))) (by decide +kernel) ?_ | refine n1 ?_ | refine nilB_i fun b hb => ?_ | refine nP ?_ ?_ | refine nS fun K hK => ?_ | (refine n2 ?_ ?_ <;> intro h <;> first | subst (h : _ = true) | subst (h : _ = false) | skip) | refine And.intro ?_ ?_ | refine nK ‹Imp _ _› ?_) | exact nl | fail
  refine Wp.loopR (fun i : Nat => ⟨[(3, .d (.fn (.func g) [] cap)), (5, .ref 0 0 0), (10, .ref 3 0 0), (11, .ref 4 0 0), (18, vV al), (19, .d (.i al.length)), (20, .d (.i i))],
    [.var [.d (.b (sgX f0)), .d (encD (nuX f0)), .d (encD (deX f0)), vV al, .d .nil, .d (.b (sgX 0)), .d (encD (nuX 0)), .d (encD (deX 0))] false, .var [.d (.b (sgX f)), .d (encD (nuX f)), .d (encD (deX f))] false, .var [.d (.b (sgX 0)), .d (encD (nuX 0)), .d (encD (deX 0))] false,
      .var [.d (.b false), .d .nil, .d .nil, .d .nil, .d .nil, .d (.b false), .d .nil, .d .nil] false] ++ (match i with
      | 0 => [.var [.d (.b (sgX f)), .d (encD (nuX f)), .d (encD (deX f)), .d .nil, .d .nil, .d (.b (sgX 0)), .d (encD (nuX 0)), .d (encD (deX 0))] false]
      | i + 1 => [.var [.d (.b (sgX f)), .d (encD (nuX f)), .d (encD (deX f)), .msl 5 0 (i + 1), .d .nil, .d (.b (sgX 0)), .d (encD (nuX 0)), .d (encD (deX 0))] false, .arr 3 ((alongX (i + 1) fun i => p (al.getD i 0)).map encX) false])⟩) (fun i => al.length - i) (fun i => i ≤ al.length) 0 Weak.lo (by simp) ?_
  rintro i hi K hK
  have e := range_snoc (n := i) (p := fun i => p (al.getD i 0))
  by_cases hia : i < al.length
  · have hpi := hp _ (getD_mem 0 hia)
    cases i with
    | zero =>
      simp only [List.cons_append, List.nil_append]
      repeat' first | (with_reducible first | refine nx' ?_ | refine n0 ?_ | refine Wp.drawR (by decide +kernel) ?_ | refine Wp.drawSR [4, 5, 6, 7, 8] [false, false, false, false, true, true, true, true, true] (.op 4 [0,1] (.op 5 [0,1] (.op 6 [] (.op 7 [] (.op 8 [] .done))))) (by decide +kernel) ?_ | refine Wp.drawSR [4, 5, 6, 7, 8] [false, false, false, false, true, true, true, true, true] (.op 4 [0,1] (.op 5 [0,1] (.op 6 [] (.op 7 [] (.op 8 [] .done))))) (by decide +kernel) ?_ | refine n1 ?_ | refine nilB_i fun b hb => ?_ | refine nPc (hpi) ?_ | refine nP ?_ ?_ | refine nS fun K hK => ?_ | (refine n2 ?_ ?_ <;> intro h <;> first | subst (h : _ = true) | subst (h : _ = false) | skip) | refine And.intro ?_ ?_ | refine nK ‹Imp _ _› ?_) | exact nl | fail
      refine ⟨1, by omega, by omega, ?_⟩
      simp only [List.cons_append, List.nil_append]
      exact Weak.perm [0, 1, 2, 3, 4, 7, 6, 5] rfl rfl Weak.cu
    | succ i =>
      simp only [List.cons_append, List.nil_append]
      repeat' first | (with_reducible first | refine nx' ?_ (by simp -implicitDefEqProofs (disch := omega) only [go_sem, alongX_len, e]; exact rfl) | refine n0 ?_ | refine Wp.drawR (by decide +kernel) ?_ | refine Wp.drawSR [4, 5, 6, 7, 8] [false, false, false, false, true, true, true, true, true] (.op 4 [0,1] (.op 5 [0,1] (.op 6 [] (.op 7 [] (.op 8 [] .done))))) (by decide +kernel) ?_ | refine Wp.drawSR [4, 5, 6, 7, 8] [false, false, false, false, true, true, true, true, true] (.op 4 [0,1] (.op 5 [0,1] (.op 6 [] (.op 7 [] (.op 8 [] .done))))) (by decide +kernel) ?_ | refine n1 ?_ | refine nilB_i fun b hb => ?_ | refine nPc (hpi) ?_ | refine nP ?_ ?_ | refine nS fun K hK => ?_ | (refine n2 ?_ ?_ <;> intro h <;> first | subst (h : _ = true) | subst (h : _ = false) | (simp only [FX, LX, alongX_len, e] at h) | skip) | refine And.intro ?_ ?_ | refine nK ‹Imp _ _› ?_) | exact nl | fail
      refine ⟨i + 2, by omega, by omega, ?_⟩
      simp only [List.cons_append, List.nil_append]
      exact Weak.cu
  · have em : al.map p = alongX al.length fun i => p (al.getD i 0) := by
      have := congrArg (List.map p) (alongX_get (l := al) rfl)
      rw [← this, List.map_map]; rfl
    cases i with
    | zero =>
      obtain rfl := List.eq_nil_of_length_eq_zero (show al.length = 0 by omega)
      simp only [List.cons_append, List.nil_append]
      repeat' first | (with_reducible first | refine nx' ?_ | refine n0 ?_ | refine Wp.drawR (by decide +kernel) ?_ | refine Wp.drawSR [4, 5, 6, 7, 8] [false, false, false, false, true, true, true, true, true] (.op 4 [0,1] (.op 5 [0,1] (.op 6 [] (.op 7 [] (.op 8 [] .done))))) (by decide +kernel) ?_ | refine Wp.drawSR [4, 5, 6, 7, 8] [false, false, false, false, true, true, true, true, true] (.op 4 [0,1] (.op 5 [0,1] (.op 6 [] (.op 7 [] (.op 8 [] .done))))) (by decide +kernel) ?_ | refine n1 ?_ | refine nilB_i fun b hb => ?_ | refine nP ?_ ?_ | refine nS fun K hK => ?_ | (refine n2 ?_ ?_ <;> intro h <;> first | subst (h : _ = true) | subst (h : _ = false) | skip) | refine And.intro ?_ ?_ | refine nK ‹Imp _ _› ?_) | exact nl | fail
      rfl
    | succ i =>
      simp only [List.cons_append, List.nil_append]
      repeat' first | (with_reducible first | refine nx' ?_ (by simp -implicitDefEqProofs (disch := omega) only [go_sem, alongX_len]; exact rfl) | refine n0 ?_ | refine Wp.drawR (by decide +kernel) ?_ | refine Wp.drawSR [4, 5, 6, 7, 8] [false, false, false, false, true, true, true, true, true] (.op 4 [0,1] (.op 5 [0,1] (.op 6 [] (.op 7 [] (.op 8 [] .done))))) (by decide +kernel) ?_ | refine Wp.drawSR [4, 5, 6, 7, 8] [false, false, false, false, true, true, true, true, true] (.op 4 [0,1] (.op 5 [0,1] (.op 6 [] (.op 7 [] (.op 8 [] .done))))) (by decide +kernel) ?_ | refine n1 ?_ | refine nilB_i fun b hb => ?_ | refine nP ?_ ?_ | refine nS fun K hK => ?_ | (refine n2 ?_ ?_ <;> intro h <;> first | subst (h : _ = true) | subst (h : _ = false) | (simp only [FX, LX, alongX_len] at h) | skip) | refine And.intro ?_ ?_ | refine nK ‹Imp _ _› ?_) | exact nl | fail
      rw [em, show al.length = i + 1 by omega, List.take_of_length_le (by simp)]
      unfold jP
      rw [if_neg (by simp)]
end Go.PL
