/- A plain machine, sound for the given model, and contracts of functions over it, part 32: AO2. Nothing is assumed. -/
import Derived.Test.YtgfncbcnplfpdaaGreatDoorG31
set_option linter.unusedSimpArgs false
set_option linter.unusedVariables false
set_option linter.unusedSectionVars false
/- AO2 -/
namespace Go.PL
open Go Go.Proofs
set_option maxRecDepth 10000
set_option linter.unusedSimpArgs false
set_option linter.unusedVariables false
theorem limbs_digs (m : Nat) : limbs (digs m) := fun x hx => by have := Dig.digs m x hx; omega
theorem okRat_parts {g : Bool} {u v : List Int} (h : okRat ⟨g, u, v⟩ = true) : ∃ m n, u = digs m ∧ v = digs n ∧ (digs m).length ≤ 40 ∧ (digs n).length ≤ 40 := by
  unfold okRat at h
  simp only [Bool.and_eq_true] at h
  obtain ⟨m, hm, hm2⟩ := okNat_digs h.1.1.1.1
  obtain ⟨n, hn, hn2⟩ := okNat_digs h.1.1.1.2
  exact ⟨m, n, hm, hn, hm2, hn2⟩
theorem cmp_one (n : Nat) : cmpN n 1 = 0 ↔ digs n = [1] := by
  constructor
  · intro h
    have : n = 1 := by unfold cmpN at h; split at h <;> (try split at h) <;> omega
    rw [this, digs_one]
  · intro h
    have : digs n = digs 1 := by rw [h, digs_one]
    rw [digs_inj this]; rfl
/-- A rational's text. -/
def ratTB (r : Rt) : ByteArray := if r.den = [1] then (if r.neg then strT [45] ++ natTB r.num else natTB r.num) else (if r.neg then strT [45] ++ natTB r.num else natTB r.num) ++ (strT [47] ++ natTB r.den)
theorem ba_assoc (a b c : ByteArray) : a ++ b ++ c = a ++ (b ++ c) := by
  apply ByteArray.ext
  simp only [ByteArray.data_append, Array.append_assoc]
theorem ratTB_size {r : Rt} (h : okRat r = true) : (ratTB r).size ≤ 400 := by
  obtain ⟨g, u, v⟩ := r
  obtain ⟨m, n, rfl, rfl, hm, hn⟩ := okRat_parts h
  have h1 := natTB_size (limbs_digs m)
  have h2 := natTB_size (limbs_digs n)
  have e1 : (strT [45]).size = 1 := rfl
  have e2 : (strT [47]).size = 1 := rfl
  unfold ratTB
  simp only
  split <;> split <;> (try simp only [ByteArray.size_append]) <;> omega
instance (g : Bool) (u v : List Int) : Con CC 38 [.d (.agg [.b g, .sl (u.map .i), .sl (v.map .i)])] (okRat ⟨g, u, v⟩ = true) (.d (.s (ratTB ⟨g, u, v⟩))) := by
  constructor; intro h
  obtain ⟨m, n, rfl, rfl, hm, hn⟩ := okRat_parts h
  have h1 := natTB_size (limbs_digs m)
  have h2 := natTB_size (limbs_digs n)
  have l1 := limbs_digs m
  have l2 := limbs_digs n
  have e1 : (ByteArray.mk #[45]).size = 1 := rfl
  have e2 : (ByteArray.mk #[47]).size = 1 := rfl
  have hc := cmp_one n
  refine Den.pureI Tryz.func38 rfl 1 [.tmp 2] (by kernel_rfl) rfl rfl (by simp only [initE_nil, initE_cons, Nat.reduceAdd]; exact rfl) ?_
  repeat' first | ((with_reducible first | refine wC ?_ | refine wC0 ?_); (first | with_reducible refine pN ?_ rfl ?_ | (refine pcDn ?_; first | with_reducible refine pN ?_ rfl ?_))) | (with_reducible refine nx ?_; simp -implicitDefEqProofs (disch := omega) only [go_sem, e1, e2, ByteArray.size_append]) | (with_reducible show Wp _ _ _ _ _ _; first | refine rR ?_ | refine Wp.skip ?_ | refine Wp.ret ?_ | refine Wp.exit ?_ | refine Wp.drawR (by decide +kernel) ?_ | refine Wp.drawSR [2, 3, 4] [false, false, true, true, true] (.op 2 [0,1] (.op 3 [] (.op 4 [] .done))) (by decide +kernel) ?_ | refine Wp.label ?_ | refine wS fun K hK => ?_ | refine wB fun K hK => ?_ | refine wE ?_) | (with_reducible show _ ∧ _; (first | refine an ?_ | refine And.intro ?_ ?_)) | (with_reducible show bcase _ _ _; first | refine bcaseT ?_ | refine bcaseF ?_ | (refine bcase_s ?_ ?_ <;> intro h <;> (first | subst h | (try simp only [FX, LX, e1, e2, ByteArray.size_append] at h)))) | (with_reducible show gcase _ _ _ _; first | refine gcaseTT ?_ | refine gcaseTF ?_ | refine gcaseFT ?_ | refine gcaseFF ?_ | refine gcaseU ?_ | ((first | refine wGt ?_ ?_ | refine wGf ?_ ?_) <;> intro h <;> (first | subst h | (simp only [h]; (try simp only [FX, LX, e1, e2, ByteArray.size_append] at h))))) | ((with_reducible refine wCq ?_); (first | with_reducible refine pQ ?_ rfl (by first | exact .inl rfl | exact .inr rfl) ?_ | (refine pcDQn ?_; first | with_reducible refine pQ ?_ rfl (by first | exact .inl rfl | exact .inr rfl) ?_))) | (with_reducible first | refine wG ?_ | refine wGq ?_ | refine r1_append ?_ | refine nilB_pos (by omega) ?_ | refine nilB_i fun b hb => ?_ | refine wGqA ?_ | refine wGl ?_ | refine wGt2 ?_) | ((with_reducible first | show qA _ _ _ _ _ _ | show lateR _ _ _ _ _ _ | show trR _ _ _ _ _ _); simp -implicitDefEqProofs (disch := omega) only [go_sem, e1, e2, ByteArray.size_append]) | (with_reducible refine Imp.out ‹Imp _ _› ?_; (try simp only [TX, Nat.reduceBEq])) | assumption | omega | exact trivial | (simp only [LX]; omega)
  all_goals (simp only [ratTB])
  all_goals (first | (rw [if_neg (fun e => (by assumption : cmpN n 1 ≠ 0) (hc.2 e))]) | rw [if_pos (hc.1 (by assumption))])
  all_goals (first | rfl | (simp only [if_true, Bool.false_eq_true, if_false, ba_assoc]; rfl))
theorem arr_R1 {b : Bool} {x y : List Int} {fz : Bool} : Ob.arr 3 [D.agg [.val (.bool b), .sl (x.map .i), .sl (y.map .i)]] fz = .arr 3 ([(⟨b, x, y⟩ : Rt)].map encR) fz := rfl
attribute [go_sem] arr_R1
theorem bR_sz {r : Rt} (h : ¬ szL 1048576 (szR r) < 0) : bR r := by
  have h2 : szR r ≤ 1048576 := by
    unfold szL at h
    split at h <;> omega
  unfold szR at h2
  exact ⟨by omega, by omega⟩
end Go.PL
