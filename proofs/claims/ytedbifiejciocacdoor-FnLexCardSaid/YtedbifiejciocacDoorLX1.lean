/- A plain machine, sound for the given model, and contracts of functions over it, part 19: LX1. Nothing is assumed. -/
import Derived.Test.YtedbifiejciocacDoorG18
set_option linter.unusedSimpArgs false
set_option linter.unusedVariables false
set_option linter.unusedSectionVars false
/- LX1 -/
namespace Go.PL
open Go Go.Proofs
set_option maxRecDepth 10000
set_option maxHeartbeats 4000000
set_option linter.unusedSimpArgs false
set_option linter.unusedVariables false
theorem sNil : (⟨#[]⟩ : ByteArray) = strT [] := rfl
theorem sSp : (⟨#[32]⟩ : ByteArray) = strT [32] := rfl
/-- A text without blanks ahead. -/
def trimS (l : List UInt8) : List UInt8 := l.dropWhile (fun c => c == 32)
theorem trimS_len (l : List UInt8) : (trimS l).length ≤ l.length := (List.dropWhile_sublist _).length_le
theorem trimS_hd (l : List UInt8) : trimS l = [] ∨ ∃ c r, trimS l = c :: r ∧ c ≠ 32 := by
  induction l with
  | nil => exact .inl rfl
  | cons c r ih =>
    by_cases h : c = 32
    · have : trimS (c :: r) = trimS r := by unfold trimS; rw [List.dropWhile_cons, if_pos (by simp [h])]
      rw [this]; exact ih
    · right
      refine ⟨c, r, ?_, h⟩
      unfold trimS; rw [List.dropWhile_cons, if_neg (by simp [h])]
theorem u32 {c : UInt8} : ((c.toNat : Nat) : Int) = 32 ↔ c = 32 := by
  constructor
  · intro h
    have h2 : c.toNat = 32 := by omega
    exact UInt8.toNat_inj.1 (by rw [h2]; rfl)
  · rintro rfl; rfl
instance (l : List UInt8) : Con CC 44 [.d (.s (strT l)), .d (.val (.int .u8 32))] (l.length ≤ 1048576) (.d (.s (strT (trimS l)))) := by
  constructor; intro hl
  refine Den.pureI Tryd.func44 rfl 2 [.tmp 4] (by kernel_rfl) rfl rfl (by simp only [initE_nil, initE_cons, Nat.reduceAdd]; exact rfl) ?_
  repeat' first | (with_reducible first | refine nx' ?_ | refine n0 ?_ | refine rD ?_ | refine n1 ?_ | refine nilB_i fun b hb => ?_ | refine nP ?_ ?_ | refine nS fun K hK => ?_ | (refine n2 ?_ ?_ <;> intro h <;> first | subst (h : _ = true) | subst (h : _ = false) | skip) | refine And.intro ?_ ?_ | refine nK ‹Imp _ _› ?_) | exact nl | fail
  refine Wp.loopR (fun t : List UInt8 => ⟨[(0, .d (.s (strT t))), (1, .d (.val (.int .u8 32)))], []⟩) (fun t => t.length) (fun t => t.length ≤ 1048576 ∧ trimS t = trimS l) l Weak.lo ⟨hl, rfl⟩ ?_
  rintro t ⟨ht, he⟩ K hK
  have hsz : (strT t).size = t.length := strT_size
  cases t with
  | nil =>
    repeat' first | (with_reducible first | refine nx' ?_ (by simp -implicitDefEqProofs (disch := omega) only [go_sem, hsz]; exact rfl) | refine n0 ?_ | refine rD ?_ | refine n1 ?_ | refine nilB_i fun b hb => ?_ | refine nP ?_ ?_ | refine nS fun K hK => ?_ | (refine n2 ?_ ?_ <;> intro h <;> first | subst (h : _ = true) | subst (h : _ = false) | (simp only [FX, LX, hsz] at h) | skip) | refine And.intro ?_ ?_ | refine nK ‹Imp _ _› ?_) | exact nl | fail
    all_goals first | (rw [← he]; rfl) | (exfalso; simp at *; done) | skip
  | cons c r =>
    have hdt : (strT (c :: r)).data.toList = c :: r := rfl
    have hx : (strT (c :: r)).extract 1 (r.length + 1) = strT r := by rw [strT_ext]; simp
    have hg : (c :: r).getD 0 0 = c := rfl
    have hln : (c :: r).length = r.length + 1 := rfl
    by_cases h : c = 32
    · have e1 : trimS (c :: r) = trimS r := by unfold trimS; rw [List.dropWhile_cons, if_pos (by simp [h])]
      have e2 := u32.2 h
      repeat' first | (with_reducible first | refine nx' ?_ (by simp -implicitDefEqProofs (disch := omega) only [go_sem, hsz, hdt, hg, e2, hln, hx]; exact rfl) | refine n0 ?_ | refine rD ?_ | refine n1 ?_ | refine nilB_i fun b hb => ?_ | refine nP ?_ ?_ | refine nS fun K hK => ?_ | (refine n2 ?_ ?_ <;> intro h <;> first | subst (h : _ = true) | subst (h : _ = false) | (simp only [FX, LX, hsz, hdt, hg, e2, hln, hx] at h) | skip) | refine And.intro ?_ ?_ | refine nK ‹Imp _ _› ?_) | exact nl | fail
      all_goals first
        | exact ⟨r, by simp, ⟨by simp at ht; omega, by rw [← e1, he]⟩, Weak.lo⟩
        | skip
    · have e1 : trimS (c :: r) = c :: r := by unfold trimS; rw [List.dropWhile_cons, if_neg (by simp [h])]
      have e2 : (((c.toNat : Nat) : Int) == 32) = false := by rw [beq_eq_false_iff_ne]; exact fun q => h (u32.1 q)
      repeat' first | (with_reducible first | refine nx' ?_ (by simp -implicitDefEqProofs (disch := omega) only [go_sem, hsz, hdt, hg, e2, hln]; exact rfl) | refine n0 ?_ | refine rD ?_ | refine n1 ?_ | refine nilB_i fun b hb => ?_ | refine nP ?_ ?_ | refine nS fun K hK => ?_ | (refine n2 ?_ ?_ <;> intro h <;> first | subst (h : _ = true) | subst (h : _ = false) | (simp only [FX, LX, hsz, hdt, hg, e2, hln] at h) | skip) | refine And.intro ?_ ?_ | refine nK ‹Imp _ _› ?_) | exact nl | fail
      all_goals first | (rw [← he, e1]) | skip
instance (l : List UInt8) : Con CC 35 [.d (.s (strT l)), .d (.s ⟨#[32]⟩)] (l.length ≤ 1048576) (.d (.s (strT (trimS l)))) := by
  constructor; intro hl
  have h1 : (⟨#[32]⟩ : ByteArray).size = 1 := rfl
  have h2 : (((⟨#[32]⟩ : ByteArray).data.toList.getD 0 0).toNat : Int) = 32 := rfl
  have h3 : ((⟨#[32]⟩ : ByteArray).toList == (⟨#[]⟩ : ByteArray).toList) = false := by rw [sSp, sNil, strT_eq]; rfl
  cases l with
  | nil =>
    have h0 : ((strT []).toList == (⟨#[]⟩ : ByteArray).toList) = true := by rw [sNil, strT_eq]; rfl
    refine Den.pureI Tryd.func35 rfl 2 [.tmp 4] (by kernel_rfl) rfl rfl (by simp only [initE_nil, initE_cons, Nat.reduceAdd]; exact rfl) ?_
    repeat' first | (with_reducible first | refine nx' ?_ (by simp -implicitDefEqProofs (disch := omega) only [go_sem, h0, h1, h2, h3]; exact rfl) | refine n0 ?_ | refine rD ?_ | refine n1 ?_ | refine nilB_i fun b hb => ?_ | refine nP ?_ ?_ | refine nS fun K hK => ?_ | (refine n2 ?_ ?_ <;> intro h <;> first | subst (h : _ = true) | subst (h : _ = false) | (simp only [FX, LX, h0, h1, h2, h3] at h) | skip) | refine And.intro ?_ ?_ | refine nK ‹Imp _ _› ?_) | exact nl | fail
    all_goals rfl
  | cons c r =>
    have h0 : ((strT (c :: r)).toList == (⟨#[]⟩ : ByteArray).toList) = false := by rw [sNil, strT_eq, decide_eq_false_iff_not]; simp
    refine Den.pureI Tryd.func35 rfl 2 [.tmp 4] (by kernel_rfl) rfl rfl (by simp only [initE_nil, initE_cons, Nat.reduceAdd]; exact rfl) ?_
    repeat' first | (with_reducible first | refine nx' ?_ (by simp -implicitDefEqProofs (disch := omega) only [go_sem, h0, h1, h2, h3]; exact rfl) | refine n0 ?_ | refine rD ?_ | refine n1 ?_ | refine nilB_i fun b hb => ?_ | refine nP ?_ ?_ | refine nS fun K hK => ?_ | (refine n2 ?_ ?_ <;> intro h <;> first | subst (h : _ = true) | subst (h : _ = false) | (simp only [FX, LX, h0, h1, h2, h3] at h) | skip) | refine And.intro ?_ ?_ | refine nK ‹Imp _ _› ?_) | exact nl | fail
instance (c : UInt8) : Decidable (isDg c) := by unfold isDg; infer_instance
/-- The digits with which a text begins. -/
def digF (l : List UInt8) : List UInt8 := l.takeWhile (fun c => decide (isDg c))
instance (c : Int) : Con CC 57 [.d (.val (.int .u8 c))] True (.d (.b (decide (48 ≤ c) && decide (c ≤ 57)))) := by
  constructor; intro _
  refine Den.pureI Tryd.func57 rfl 1 [.tmp 2] (by kernel_rfl) rfl rfl (by simp only [initE_nil, initE_cons, Nat.reduceAdd]; exact rfl) ?_
  repeat' first | (with_reducible first | refine nx' ?_ | refine n0 ?_ | refine rD ?_ | refine n1 ?_ | refine nilB_i fun b hb => ?_ | refine nP ?_ ?_ | refine nS fun K hK => ?_ | (refine n2 ?_ ?_ <;> intro h <;> first | subst (h : _ = true) | subst (h : _ = false) | skip) | refine And.intro ?_ ?_ | refine nK ‹Imp _ _› ?_) | exact nl | fail
  all_goals (congr 3; simp; try omega)
theorem digF_take {l : List UInt8} {n : Nat} (hn : n ≤ l.length) (h1 : ∀ t, t < n → isDg (l.getD t 0)) (h2 : n < l.length → ¬ isDg (l.getD n 0)) : l.take n = digF l := by
  induction n generalizing l with
  | zero =>
    cases l with
    | nil => rfl
    | cons c r =>
      have := h2 (by simp)
      unfold digF; rw [List.takeWhile_cons, if_neg (by simpa using this)]; rfl
  | succ n ih =>
    cases l with
    | nil => simp at hn
    | cons c r =>
      have h3 := h1 0 (by omega)
      unfold digF; rw [List.takeWhile_cons, if_pos (by simpa using h3), List.take_succ_cons]
      congr 1
      exact ih (by simpa using hn) (fun t ht => by simpa using h1 (t + 1) (by omega)) (fun h => by simpa using h2 (by simpa using h))
instance (l : List UInt8) : Con CC 48 [.d (.s (strT l))] (l.length ≤ 1048576) (.d (.s (strT (digF l)))) := by
  constructor; intro hl
  have hsz : (strT l).size = l.length := strT_size
  have hdt : (strT l).data.toList = l := rfl
  refine Den.pureI Tryd.func48 rfl 1 [.tmp 2] (by kernel_rfl) rfl rfl (by simp only [initE_nil, initE_cons, Nat.reduceAdd]; exact rfl) ?_
  repeat' first | (with_reducible first | refine nx' ?_ (by simp -implicitDefEqProofs (disch := omega) only [go_sem, hsz]; exact rfl) | refine n0 ?_ | refine rD ?_ | refine n1 ?_ | refine nilB_i fun b hb => ?_ | refine nP ?_ ?_ | refine nS fun K hK => ?_ | (refine n2 ?_ ?_ <;> intro h <;> first | subst (h : _ = true) | subst (h : _ = false) | (simp only [FX, LX, hsz] at h) | skip) | refine And.intro ?_ ?_ | refine nK ‹Imp _ _› ?_) | exact nl | fail
  refine Wp.loopR (fun i : Nat => ⟨[(0, .d (.s (strT l))), (3, .d (.i i))], []⟩) (fun i => l.length - i) (fun i => i ≤ l.length ∧ ∀ t, t < i → isDg (l.getD t 0)) 0 Weak.lo ⟨by simp, by intro t ht; omega⟩ ?_
  rintro i ⟨hi, hd⟩ K hK
  have hx : (strT l).extract 0 i = strT (l.take i) := by rw [strT_ext]; simp
  by_cases hil : i < l.length
  · by_cases hc : isDg (l.getD i 0)
    · have hc2 := hc
      unfold isDg at hc2
      repeat' first | (with_reducible first | refine nx' ?_ (by simp -implicitDefEqProofs (disch := omega) only [go_sem, hsz, hdt]; exact rfl) | refine n0 ?_ | refine rD ?_ | refine n1 ?_ | refine nilB_i fun b hb => ?_ | refine nP ?_ ?_ | refine nS fun K hK => ?_ | (refine n2 ?_ ?_ <;> intro h <;> first | subst (h : _ = true) | subst (h : _ = false) | (simp only [FX, LX, hsz, hdt] at h) | skip) | refine And.intro ?_ ?_ | refine nK ‹Imp _ _› ?_) | exact nl | fail
      all_goals first
        | exact ⟨i + 1, by omega, ⟨by omega, fun t ht => by rcases (show t < i ∨ t = i by omega) with e | e; exact hd t e; subst e; exact hc⟩, Weak.lo⟩
        | (exfalso; omega)
        | skip
    · have hc2 := hc
      unfold isDg at hc2
      have e := digF_take hi hd fun _ => hc
      repeat' first | (with_reducible first | refine nx' ?_ (by simp -implicitDefEqProofs (disch := omega) only [go_sem, hsz, hdt, hx, e]; exact rfl) | refine n0 ?_ | refine rD ?_ | refine n1 ?_ | refine nilB_i fun b hb => ?_ | refine nP ?_ ?_ | refine nS fun K hK => ?_ | (refine n2 ?_ ?_ <;> intro h <;> first | subst (h : _ = true) | subst (h : _ = false) | (simp only [FX, LX, hsz, hdt, hx, e] at h) | skip) | refine And.intro ?_ ?_ | refine nK ‹Imp _ _› ?_) | exact nl | fail
      all_goals first | (exfalso; omega) | skip
  · have e := digF_take hi hd fun h => absurd h hil
    repeat' first | (with_reducible first | refine nx' ?_ (by simp -implicitDefEqProofs (disch := omega) only [go_sem, hsz, hdt, hx, e]; exact rfl) | refine n0 ?_ | refine rD ?_ | refine n1 ?_ | refine nilB_i fun b hb => ?_ | refine nP ?_ ?_ | refine nS fun K hK => ?_ | (refine n2 ?_ ?_ <;> intro h <;> first | subst (h : _ = true) | subst (h : _ = false) | (simp only [FX, LX, hsz, hdt, hx, e] at h) | skip) | refine And.intro ?_ ?_ | refine nK ‹Imp _ _› ?_) | exact nl | fail
end Go.PL
