/- A plain machine, sound for the given model, and contracts of functions over it, part 23: A2 A3 DS2. Nothing is assumed. -/
import Derived.Test.YtedbifiejciocacDoorDS
import Derived.KernelRfl
import Derived.Test.YtedbifiejciocacDoorProg
set_option linter.unusedSimpArgs false
set_option linter.unusedVariables false
set_option linter.unusedSectionVars false
/- A2 -/
namespace Go.PL
open Go Go.Proofs
set_option maxRecDepth 10000
set_option maxHeartbeats 4000000
set_option linter.unusedSimpArgs false
set_option linter.unusedVariables false
end Go.PL

/- A3 -/
namespace Go.PL
open Go Go.Proofs
set_option maxRecDepth 10000
set_option maxHeartbeats 4000000
set_option linter.unusedSimpArgs false
set_option linter.unusedVariables false
/-- What a natural is. -/
def okNat (a : List Int) : Bool := decide (a.length ≤ 40 ∧ (∀ t, t < a.length → 0 ≤ a.getD t 0 ∧ a.getD t 0 ≤ 9999) ∧ (a.length = 0 ∨ 0 < a.getD (a.length - 1) 0))

end Go.PL

/- DS2 -/
namespace Go.PL
open Go Go.Proofs
set_option maxRecDepth 10000
set_option maxHeartbeats 4000000
set_option linter.unusedSimpArgs false
set_option linter.unusedVariables false
instance (l : List Int) (a : Nat) (s n : Int) : ConS CC 24 [.d (.i n)] (encB l) (.i a) (.i s) (SOk l 999999999990 (a, s) ∧ 0 ≤ n ∧ n < 1000000000) (.d (.i (nexF l n (a, s)).1)) (encB l) (.i (nexF l n (a, s)).2.1) (.i (nexF l n (a, s)).2.2) := by
  constructor
  rintro os o hF ⟨h, hn0, hn1⟩
  obtain ⟨a1, a2, a3⟩ := bytF_ok h (by omega)
  obtain ⟨b1, b2, b3⟩ := bytF_ok a3 (by omega)
  obtain ⟨c1, c2, c3⟩ := bytF_ok b3 (by omega)
  have h' := h.mono (c := 1000000000000) (by omega) (by omega)
  have a3' := a3.mono (c := 1000000000000) (by omega) (by omega)
  have b3' := b3.mono (c := 1000000000000) (by omega) (by omega)
  refine Den.newG (vs := [.d (.i (nexF l n (a, s)).1)]) Tryd.func24 rfl 2 os.length [.tmp 4] (by kernel_rfl) rfl rfl (by simp only [initE_nil, initE_cons, Nat.reduceAdd]; exact rfl) rfl (by simp) (by simp) rfl (by rw [List.length_set]; exact all_set' hF.bd rfl) ?_
  unfold nexF
  by_cases k1 : n ≤ 1
  · rw [if_pos k1]
    repeat' first | (with_reducible first | refine nx' ?_ | refine n0 ?_ | refine rD ?_ | refine n1 ?_ | refine nilB_i fun b hb => ?_ | refine nPs ?_ ?_ | refine nP ?_ ?_ | refine nS fun K hK => ?_ | (refine n2 ?_ ?_ <;> intro h <;> first | subst (h : _ = true) | subst (h : _ = false) | skip) | refine And.intro ?_ ?_ | refine nK ‹Imp _ _› ?_) | exact nl | fail
    all_goals first
      | exact finG_of [(4, .d (.i 0))] [] (by rw [List.append_nil]; exact Weak.lo)
      | skip
  · rw [if_neg k1]
    by_cases k2 : n ≤ 256
    · rw [if_pos k2]
      repeat' first | (with_reducible first | refine nx' ?_ | refine n0 ?_ | refine rD ?_ | refine n1 ?_ | refine nilB_i fun b hb => ?_ | refine nPs ?_ ?_ | refine nP ?_ ?_ | refine nS fun K hK => ?_ | (refine n2 ?_ ?_ <;> intro h <;> first | subst (h : _ = true) | subst (h : _ = false) | skip) | refine And.intro ?_ ?_ | refine nK ‹Imp _ _› ?_) | exact nl | fail
      all_goals first
        | exact finG_of [(4, .d (.i ((bytF l (a, s)).1 % n)))] [] (by rw [List.append_nil]; exact Weak.lo)
        | skip
    · rw [if_neg k2]
      repeat' first | (with_reducible first | refine nx' ?_ | refine n0 ?_ | refine rD ?_ | refine n1 ?_ | refine nilB_i fun b hb => ?_ | refine nPs ?_ ?_ | refine nP ?_ ?_ | refine nS fun K hK => ?_ | (refine n2 ?_ ?_ <;> intro h <;> first | subst (h : _ = true) | subst (h : _ = false) | skip) | refine And.intro ?_ ?_ | refine nK ‹Imp _ _› ?_) | exact nl | fail
      all_goals first
        | exact finG_of [(4, .d (.i (((bytF l (a, s)).1 * 65536 + (bytF l (bytF l (a, s)).2).1 * 256 + (bytF l (bytF l (bytF l (a, s)).2).2).1) % n)))] [] (by rw [List.append_nil]; exact Weak.lo)
        | skip
/-- A drawn natural's limbs. -/
def limF (l : List Int) (σ : Src) : Int × Src :=
  let p := nexF l 10000 σ
  let q := nexF l 9 p.2
  let r := nexF l 2 q.2
  (([p.1, 9999, 0] : List Int).getD (q.1 / 7 * (1 + r.1) % 3).toNat 0, r.2)
def limsF (l : List Int) : Nat → Src → List Int → List Int × Src
  | 0, σ, out => (out, σ)
  | k + 1, σ, out => limsF l k (limF l σ).2 (out ++ [(limF l σ).1])
def natF (l : List Int) (σ : Src) : List Int × Src := limsF l (nexF l 5 σ).1.toNat (nexF l 5 σ).2 []
theorem limF_ok {l : List Int} {b : Nat} {σ : Src} (h : SOk l b σ) (hb : b + 9 ≤ 1000000000000) : 0 ≤ (limF l σ).1 ∧ (limF l σ).1 ≤ 9999 ∧ SOk l (b + 9) (limF l σ).2 := by
  obtain ⟨a1, a2, a3⟩ := nexF_ok (n := 10000) h (by omega)
  obtain ⟨b1, b2, b3⟩ := nexF_ok (n := 9) a3 (by omega)
  obtain ⟨c1, c2, c3⟩ := nexF_ok (n := 2) b3 (by omega)
  unfold limF
  simp only
  refine ⟨?_, ?_, c3⟩
  all_goals
    have := a2 (by omega)
    generalize (nexF l 10000 σ).1 = x at *
    generalize (_ : Int).toNat = i
    match i with
    | 0 => simp; omega
    | 1 => simp
    | 2 => simp
    | i + 3 => simp
end Go.PL
