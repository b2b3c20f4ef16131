/- A plain machine, sound for the given model, and contracts of functions over it, part 28: RN. Nothing is assumed. -/
import Derived.Test.YtedbifiejciocaeGreatDoorG27
set_option linter.unusedSimpArgs false
set_option linter.unusedVariables false
set_option linter.unusedSectionVars false
/- RN -/
namespace Go.PL
open Go Go.Proofs
set_option maxRecDepth 10000
set_option maxHeartbeats 4000000
set_option linter.unusedSimpArgs false
set_option linter.unusedVariables false
instance (c : Int) : Con CC 63 [.d (.val (.int .u8 c))] True (.d (.b (decide (48 ≤ c) && decide (c ≤ 57)))) := by
  constructor; intro _
  refine Den.pureI Tryz.func63 rfl 1 [.tmp 2] (by kernel_rfl) rfl rfl (by simp only [initE_nil, initE_cons, Nat.reduceAdd]; exact rfl) ?_
  repeat' first | (with_reducible first | refine nx' ?_ | refine n0 ?_ | refine rD ?_ | refine n1 ?_ | refine nilB_i fun b hb => ?_ | refine nP ?_ ?_ | refine nS fun K hK => ?_ | (refine n2 ?_ ?_ <;> intro h <;> first | subst (h : _ = true) | subst (h : _ = false) | skip) | refine And.intro ?_ ?_ | refine nK ‹Imp _ _› ?_) | exact nl | fail
  all_goals (congr 3; simp; try omega)
instance (c : UInt8) : Decidable (isDg c) := by unfold isDg; infer_instance
/-- Is it a natural number's text? -/
def okN (l : List UInt8) : Bool := decide (1 ≤ l.length ∧ l.length ≤ 160) && !(decide (l.getD 0 0 = 48) && decide (1 < l.length)) && decide (∀ c ∈ l, isDg c)
theorem okN_iff {l : List UInt8} : okN l = true ↔ 1 ≤ l.length ∧ l.length ≤ 160 ∧ (l.getD 0 0 = 48 → l.length ≤ 1) ∧ ∀ c ∈ l, isDg c := by
  unfold okN
  simp only [Bool.and_eq_true, decide_eq_true_eq, Bool.not_eq_true', Bool.and_eq_false_iff, decide_eq_false_iff_not, and_assoc]
  constructor
  · rintro ⟨a, b, c, d⟩; exact ⟨a, b, fun h => by rcases c with c | c; exact absurd h c; omega, d⟩
  · rintro ⟨a, b, c, d⟩; exact ⟨a, b, by by_cases h : l.getD 0 0 = 48; exact .inr (by have := c h; omega); exact .inl h, d⟩
theorem okN_not {l : List UInt8} (h : ¬ (1 ≤ l.length ∧ l.length ≤ 160 ∧ (l.getD 0 0 = 48 → l.length ≤ 1) ∧ ∀ c ∈ l, isDg c)) : okN l = false := by
  rw [Bool.eq_false_iff]; exact fun hk => h (okN_iff.1 hk)
/-- The number that a text is; 0 of others. -/
def rdN (l : List UInt8) : Nat := if okN l then dv l else 0
theorem rdN_yes {l : List UInt8} (h : okN l = true) : rdN l = dv l := if_pos h
theorem rdN_no {l : List UInt8} (h : okN l = false) : rdN l = 0 := by unfold rdN; rw [h]; rfl
theorem strT_nil {l : List UInt8} : strT l = ⟨#[]⟩ ↔ l = [] := by
  constructor
  · intro h
    have := congrArg (fun t : ByteArray => t.data.toList) h
    simpa [strT] using this
  · rintro rfl; rfl
theorem u48 {c : UInt8} : ((c.toNat : Nat) : Int) = 48 ↔ c = 48 := by
  constructor
  · intro h
    have h2 : c.toNat = 48 := by omega
    exact UInt8.toNat_inj.1 (by rw [h2]; rfl)
  · rintro rfl; rfl
theorem w8 {n : Int} (h1 : 0 ≤ n) (h2 : n < 256) : IntKind.wrap .u8 n = n := by
  show n % 256 = n
  omega
theorem dv_take {l : List UInt8} {b j : Nat} (h : b + j < l.length) : dv ((l.drop b).take (j + 1)) = dv ((l.drop b).take j) * 10 + ((l.getD (b + j) 0).toNat - 48) := by
  rw [List.take_add_one, List.getElem?_drop, List.getElem?_eq_getElem h, Option.toList_some, dv_snoc, List.getD, List.getElem?_eq_getElem h]; rfl
theorem dv_part {l : List UInt8} {b j : Nat} (h : b + j ≤ l.length) : dv (l.take (b + j)) = dv (l.take b) * 10 ^ j + dv ((l.drop b).take j) := by
  rw [List.take_add, dv_app, List.length_take, List.length_drop, Nat.min_eq_left (by omega)]
end Go.PL
