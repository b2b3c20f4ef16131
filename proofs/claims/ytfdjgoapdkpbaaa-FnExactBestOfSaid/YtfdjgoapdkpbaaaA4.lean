/- A plain machine, sound for the given model, and contracts of functions over it, part 19: A4. Nothing is assumed. -/
import Derived.Test.YtfdjgoapdkpbaaaA3
import Derived.KernelRfl
import Derived.Test.YtfdjgoapdkpbaaaProg
set_option linter.unusedSimpArgs false
set_option linter.unusedVariables false
set_option linter.unusedSectionVars false
/- A4 -/
namespace Go.PL
open Go Go.Proofs
set_option maxRecDepth 10000
set_option maxHeartbeats 4000000
set_option linter.unusedSimpArgs false
set_option linter.unusedVariables false
/-- A rational's parts. -/
structure Rt where
  neg : Bool
  num : List Int
  den : List Int
deriving DecidableEq
def encR (r : Rt) : D := .agg [.b r.neg, encD r.num, encD r.den]
theorem encR_eq {r : Rt} : encR r = .agg [.b r.neg, encD r.num, encD r.den] := rfl
instance : Enc encR 3 ⟨false, [], []⟩ := ⟨fun _ => rfl, fun x => by simp [encR, D.cells, D.one]⟩
theorem app_R {l : List Rt} {b : Bool} {x y : List Int} : l.map encR ++ [D.agg [.val (.bool b), .sl (x.map .i), .sl (y.map .i)]] = (l ++ [(⟨b, x, y⟩ : Rt)]).map encR := by simp [encR]
theorem set_R {l : List Rt} {k : Nat} {b : Bool} {x y : List Int} : (l.map encR).set k (D.agg [.val (.bool b), .sl (x.map .i), .sl (y.map .i)]) = (l.set k (⟨b, x, y⟩ : Rt)).map encR := by rw [List.map_set]; rfl
theorem Rt.eta {x : Rt} : Rt.mk x.neg x.num x.den = x := rfl
attribute [go_sem] encR_eq app_R set_R Rt.eta

theorem trim_len_le (a : List Int) : (trim a).length ≤ a.length := by
  rcases List.eq_nil_or_concat a with rfl | ⟨l, x, rfl⟩
  · simp [trim]
  · rw [List.concat_eq_append]
    by_cases h : x = 0
    · subst h; rw [trim_zero]; have := trim_len_le l; simp; omega
    · rw [trim_ne h]; exact Nat.le_refl _
termination_by a.length
theorem okNat_digs {a : List Int} (h : okNat a = true) : ∃ m, a = digs m ∧ (digs m).length ≤ 40 := by
  unfold okNat at h
  simp only [decide_eq_true_eq] at h
  obtain ⟨h1, h2, h3⟩ := h
  have hd : Dig a := by
    intro x hx
    obtain ⟨i, hi, rfl⟩ := List.getElem_of_mem hx
    have := h2 i hi
    simp only [List.getD, List.getElem?_eq_getElem hi, Option.getD_some] at this
    omega
  have ht : trim a = a := by
    rcases h3 with h3 | h3
    · rw [List.eq_nil_of_length_eq_zero h3]; rfl
    · have hn : 0 < a.length := by
        rcases Nat.eq_zero_or_pos a.length with e | e
        · rw [List.eq_nil_of_length_eq_zero e] at h3; simp at h3
        · exact e
      have := trim_take_ne (a := a) hn (Nat.le_refl _) (by omega)
      rw [List.take_length] at this
      exact this
  refine ⟨(val a).toNat, digs_eq hd ht, ?_⟩
  rw [← digs_eq hd ht]; exact h1
theorem okNat_of_digs {m : Nat} (h : (digs m).length ≤ 40) : okNat (digs m) = true := by
  unfold okNat
  rw [decide_eq_true_eq]
  refine ⟨h, fun t _ => by have := (Dig.digs m).get t; omega, ?_⟩
  have e := trim_digs m
  rcases Nat.eq_zero_or_pos (digs m).length with h0 | h0
  · exact .inl h0
  · right
    have g := (Dig.digs m).get ((digs m).length - 1)
    rcases Int.lt_or_le 0 ((digs m).getD ((digs m).length - 1) 0) with k | k
    · exact k
    · exfalso
      have k0 : (digs m).getD ((digs m).length - 1) 0 = 0 := by omega
      have h1 := trim_take_zero (a := digs m) h0 (Nat.le_refl _) k0
      rw [List.take_length, e] at h1
      have h2 := trim_len_le ((digs m).take ((digs m).length - 1))
      rw [h1, List.length_take] at h2
      omega
theorem okNat_cases (a : List Int) : (∃ m, a = digs m ∧ (digs m).length ≤ 40) ∨ okNat a = false := by
  cases h : okNat a with
  | true => exact .inl (okNat_digs h)
  | false => exact .inr rfl

/-- What a rational is. -/
def okRat (r : Rt) : Bool := okNat r.num && okNat r.den && !(r.den.length == 0) && !(r.num.length == 0 && r.neg) && (Nat.gcd (val r.num).toNat (val r.den).toNat == 1)

theorem digs_one : digs 1 = [1] := by rw [digs_pos (by omega), digs_zero]; rfl
instance (m : Nat) : Con CC 54 [.d (encD (digs m)), .d (encD [1])] ((digs m).length < 4611686018427387904) (.d (.i (cmpN m 1))) :=
  ⟨fun h => by rw [← digs_one]; exact Con.ok ⟨h, by rw [digs_one]; decide⟩⟩
theorem digs_len_pos {n : Nat} (h : ((digs n).length : Int) ≠ 0) : 0 < n := by
  rcases Nat.eq_zero_or_pos n with e | e
  · rw [e, digs_zero] at h; simp at h
  · exact e
theorem gcd_len {m n : Nat} (h : 0 < n) (hn : (digs n).length ≤ 2000) : (digs (Nat.gcd m n)).length < 4611686018427387904 := by
  have := digs_len_mono (Nat.le_of_dvd h (Nat.gcd_dvd_right m n)); omega
theorem cmpN_eq {m n : Nat} : (cmpN m n == 0) = (m == n) := by
  unfold cmpN
  split
  · have : m ≠ n := by omega
    simp [this]
  · split
    · simp [*]
    · simp [*]
theorem digs_len0 {n : Nat} : ((digs n).length : Int) = 0 ↔ n = 0 := by
  rw [← digs_nil]; simp
theorem okRat_digs {b : Bool} {m n : Nat} (hm : (digs m).length ≤ 40) (hn : (digs n).length ≤ 40) : okRat ⟨b, digs m, digs n⟩ = (!(n == 0) && !(m == 0 && b) && (Nat.gcd m n == 1)) := by
  have e : ∀ k : Nat, ((digs k).length == 0) = (k == 0) := by
    intro k
    rw [Bool.eq_iff_iff]; simp [digs_nil]
  simp only [okRat, okNat_of_digs hm, okNat_of_digs hn, e, val_digs, Int.toNat_natCast, Bool.true_and]

instance (b : Bool) (x y : List Int) : Con CC 46 [.d (.agg [.b b, encD x, encD y])] (x.length < 4611686018427387904 ∧ y.length < 4611686018427387904) (.d (.b (okRat ⟨b, x, y⟩))) := by
  constructor; intro ⟨h1, h2⟩
  rcases okNat_cases x with ⟨m, rfl, hm⟩ | hx
  · have em := okNat_of_digs hm
    rcases okNat_cases y with ⟨n, rfl, hn⟩ | hy
    · have en := okNat_of_digs hn
      refine Den.pureI Try.func46 rfl 1 [.tmp 2] (by kernel_rfl) rfl rfl (by simp only [initE_nil, initE_cons, Nat.reduceAdd]; exact rfl) ?_
      repeat' first | (with_reducible first | refine nx' ?_ (by simp -implicitDefEqProofs (disch := omega) only [go_sem, em, en]; exact rfl) | refine n0 ?_ | refine rD ?_ | refine n1 ?_ | refine nilB_i fun b hb => ?_ | refine nP ?_ ?_ | refine nS fun K hK => ?_ | (refine n2 ?_ ?_ <;> intro h <;> first | subst (h : _ = true) | subst (h : _ = false) | (simp only [FX, LX, em, en] at h) | skip) | refine And.intro ?_ ?_ | refine nK ‹Imp _ _› ?_) | exact nl | fail
      all_goals (try simp only [digs_len0, ne_eq] at *)
      all_goals (first | (rw [okRat_digs hm hn]; simp [cmpN_eq, *]; done) | exact gcd_len (by omega) (by omega))
    · refine Den.pureI Try.func46 rfl 1 [.tmp 2] (by kernel_rfl) rfl rfl (by simp only [initE_nil, initE_cons, Nat.reduceAdd]; exact rfl) ?_
      repeat' first | (with_reducible first | refine nx' ?_ (by simp -implicitDefEqProofs (disch := omega) only [go_sem, em, hy]; exact rfl) | refine n0 ?_ | refine rD ?_ | refine n1 ?_ | refine nilB_i fun b hb => ?_ | refine nP ?_ ?_ | refine nS fun K hK => ?_ | (refine n2 ?_ ?_ <;> intro h <;> first | subst (h : _ = true) | subst (h : _ = false) | (simp only [FX, LX, em, hy] at h) | skip) | refine And.intro ?_ ?_ | refine nK ‹Imp _ _› ?_) | exact nl | fail
      all_goals (simp [okRat, em, hy])
  · refine Den.pureI Try.func46 rfl 1 [.tmp 2] (by kernel_rfl) rfl rfl (by simp only [initE_nil, initE_cons, Nat.reduceAdd]; exact rfl) ?_
    repeat' first | (with_reducible first | refine nx' ?_ (by simp -implicitDefEqProofs (disch := omega) only [go_sem, hx]; exact rfl) | refine n0 ?_ | refine rD ?_ | refine n1 ?_ | refine nilB_i fun b hb => ?_ | refine nP ?_ ?_ | refine nS fun K hK => ?_ | (refine n2 ?_ ?_ <;> intro h <;> first | subst (h : _ = true) | subst (h : _ = false) | (simp only [FX, LX, hx] at h) | skip) | refine And.intro ?_ ?_ | refine nK ‹Imp _ _› ?_) | exact nl | fail
    all_goals (simp [okRat, hx])
end Go.PL
