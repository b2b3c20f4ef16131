/- A plain machine, sound for the given model, and contracts of functions over it, part 18: AT PlIdx AJ PlStr PlNew. Nothing is assumed. -/
import Derived.Test.YtedbifiejciocacDoorA1
import Derived.Lib.ItoaMem
import Derived.Laws.Strings
import Derived.Lib.Join
set_option linter.unusedSimpArgs false
set_option linter.unusedVariables false
set_option linter.unusedSectionVars false
/- AT -/
namespace Go.PL
open Go Go.Proofs
set_option maxRecDepth 10000
set_option maxHeartbeats 4000000
set_option linter.unusedSimpArgs false
set_option linter.unusedVariables false
instance (n : Int) : Con CC 27 [.d (.i n)] (-9223372036854775808 ≤ n ∧ n ≤ 9223372036854775807) (.d (.s (itoaB n))) :=
  ⟨fun h => Den.ext ⟨rfl, rfl, .inl ⟨rfl, n, h.1, h.2, rfl, rfl⟩⟩⟩
instance (s t : ByteArray) : Con CC 23 [.d (.s s), .d (.s t)] (t.size = 1) (.d (.b (has1 s t))) :=
  ⟨fun h => Den.ext ⟨rfl, rfl, .inr (.inl ⟨rfl, s, t, h, rfl, rfl⟩)⟩⟩
instance (x a b : Int) : Con CC 22 [.d (.i x), .d (.i a), .d (.i b)] True (.d (.b (decide (a ≤ x) && decide (x ≤ b)))) := by
  constructor; intro pre
  refine Den.pureI Tryd.func22 rfl 3 [.tmp 6] (by kernel_rfl) rfl rfl (by simp only [initE_nil, initE_cons, Nat.reduceAdd]; exact rfl) ?_
  repeat' first | (with_reducible first | refine nx' ?_ | refine n0 ?_ | refine rD ?_ | refine n1 ?_ | refine nilB_i fun b hb => ?_ | refine nP ?_ ?_ | refine nS fun K hK => ?_ | (refine n2 ?_ ?_ <;> intro h <;> first | subst (h : _ = true) | subst (h : _ = false) | skip) | refine And.intro ?_ ?_ | refine nK ‹Imp _ _› ?_) | exact nl | fail
  all_goals (first | omega | exact Or.inr trivial | (congr 3; simp [*]; done) | (congr 3; simp [*]; omega) | skip)
theorem wrap8 {n : Int} (h1 : 0 ≤ n) (h2 : n < 256) : IntKind.wrap .u8 n = n := by
  have e1 : (2 ^ IntKind.u8.bits : Int) = 256 := by decide
  have e3 : IntKind.u8.signed = false := by decide
  simp only [IntKind.wrap, e1, e3, Bool.false_and, Bool.false_eq_true, if_false]
  omega
theorem digB_small {n : Nat} (h : n < 10) : digB n = strB [IntKind.u8.wrap (48 + (n : Int))] := by
  unfold digB strB
  rw [Lib.decDigits, dif_pos h, wrap8 (by omega) (by omega), show (48 + (n : Int)) = ((48 + n : Nat) : Int) by omega]
  rfl
theorem digB_big {n : Nat} (h : 10 ≤ n) : digB n = digB (n / 10) ++ strB [IntKind.u8.wrap (48 + ((n % 10 : Nat) : Int))] := by
  unfold digB strB
  rw [Lib.decDigits, dif_neg (by omega), wrap8 (by omega) (by omega), show (48 + ((n % 10 : Nat) : Int)) = ((48 + n % 10 : Nat) : Int) by omega]
  apply ByteArray.ext
  rw [ByteArray.data_append]
  show (Lib.decDigits (n / 10) ++ [UInt8.ofNat (48 + n % 10)]).toArray = (Lib.decDigits (n / 10)).toArray ++ [UInt8.ofNat (48 + n % 10)].toArray
  simp only [List.append_toArray]
theorem strB_size (l : List Int) : (strB l).size = l.length := by
  show ((l.map fun n => UInt8.ofNat n.toNat).toArray).size = _
  simp
theorem digB_size (n : Nat) : (digB n).size ≤ n + 1 := by
  show (Lib.decDigits n).toArray.size ≤ _
  induction n using Nat.strongRecOn with
  | _ n ih =>
    rw [Lib.decDigits]
    split
    · simp
    · have := ih (n / 10) (by omega)
      simp only [List.size_toArray, List.length_append, List.length_cons, List.length_nil] at this ⊢
      omega
theorem digits_c (n : Nat) : n ≤ 9223372036854775807 → CC 43 [.d (.i n)] [] (.d (.s (digB n))) [] := by
  induction n using Nat.strongRecOn with
  | _ n ih =>
    intro hn
    have hs := digB_size (n / 10)
    have e1 : (n : Int) / 10 = ((n / 10 : Nat) : Int) := by omega
    have e2 : (n : Int) % 10 = ((n % 10 : Nat) : Int) := by omega
    refine Den.pureI Tryd.func43 rfl 1 [.tmp 2] (by kernel_rfl) rfl rfl (by simp only [initE_nil, initE_cons, Nat.reduceAdd]; exact rfl) ?_
    repeat' first | (with_reducible first | refine nx' ?_ (by simp -implicitDefEqProofs (disch := omega) only [go_sem, e1, e2]; exact rfl) | refine n0 ?_ | refine Wp.drawR (by decide +kernel) ?_ | refine Wp.drawSR [7, 8, 9, 10] [false, false, false, false, false, false, false, true, true, true, true] (.op 7 [0,1,2] (.op 8 [0,1,2] (.op 9 [] (.op 10 [] .done)))) (by decide +kernel) ?_ | refine n1 ?_ | refine nilB_i fun b hb => ?_ | refine nPc (ih (n / 10) (by omega) (by omega)) ?_ | refine nP ?_ ?_ | refine nS fun K hK => ?_ | (refine n2 ?_ ?_ <;> intro h <;> first | subst (h : _ = true) | subst (h : _ = false) | (simp only [FX, LX, e1, e2] at h) | skip) | refine And.intro ?_ ?_ | refine nK ‹Imp _ _› ?_) | exact nl | fail
    · rw [digB_small (by omega)]
    · rw [strB_size]; simp only [List.length_cons, List.length_nil]; omega
    · rw [← digB_big (by omega)]
instance (n : Nat) : Con CC 43 [.d (.i n)] (n ≤ 9223372036854775807) (.d (.s (digB n))) := ⟨digits_c n⟩
instance (n a b : Int) : Con CC 31 [.d (.i n), .d (.i a), .d (.i b)] True (.d (.b (decide (a ≤ n) && decide (n ≤ b)))) := inferInstance
def punctB (t : ByteArray) : Bool := t.toList == (ByteArray.mk #[43]).toList || t.toList == (ByteArray.mk #[45]).toList || t.toList == (ByteArray.mk #[42]).toList || t.toList == (ByteArray.mk #[47]).toList || t.toList == (ByteArray.mk #[94]).toList || t.toList == (ByteArray.mk #[40]).toList || t.toList == (ByteArray.mk #[41]).toList
instance (t : ByteArray) : Con CC 32 [.d (.s t)] True (.d (.b (punctB t))) := by
  constructor; intro _
  refine Den.pureI Tryd.func32 rfl 1 [.tmp 2] (by kernel_rfl) rfl rfl (by simp only [initE_nil, initE_cons, Nat.reduceAdd]; exact rfl) ?_
  repeat' first | (with_reducible first | refine nx' ?_ | refine n0 ?_ | refine rD ?_ | refine n1 ?_ | refine nilB_i fun b hb => ?_ | refine nP ?_ ?_ | refine nS fun K hK => ?_ | (refine n2 ?_ ?_ <;> intro h <;> first | subst (h : _ = true) | subst (h : _ = false) | skip) | refine And.intro ?_ ?_ | refine nK ‹Imp _ _› ?_) | exact nl | fail
  all_goals simp only [punctB, Bool.true_or, Bool.or_true, Bool.false_or, *]
theorem punct_list {t : ByteArray} : punctB t = (t.data.toList == [43] || t.data.toList == [45] || t.data.toList == [42] || t.data.toList == [47] || t.data.toList == [94] || t.data.toList == [40] || t.data.toList == [41]) := by
  unfold punctB
  simp only [ByteArray.toList_eq]
theorem list_one {t : ByteArray} (h : t.size = 1) : ∃ c, t = ⟨#[c]⟩ := by
  obtain ⟨⟨l⟩⟩ := t
  have h1 : l.length = 1 := h
  match l, h1 with
  | [c], _ => exact ⟨c, rfl⟩
theorem has1_punct {t : ByteArray} (h : t.size = 1) : has1 ⟨#[43, 45, 42, 47, 94, 40, 41]⟩ t = punctB t := by
  obtain ⟨c, rfl⟩ := list_one h
  rw [punct_list]
  unfold has1
  show decide (0 ≤ Lib.indexByte [43, 45, 42, 47, 94, 40, 41] c) = (([c] : List UInt8) == [43] || ([c] : List UInt8) == [45] || ([c] : List UInt8) == [42] || ([c] : List UInt8) == [47] || ([c] : List UInt8) == [94] || ([c] : List UInt8) == [40] || ([c] : List UInt8) == [41])
  have key : ∀ c : UInt8, decide (0 ≤ Lib.indexByte [43, 45, 42, 47, 94, 40, 41] c) = (([c] : List UInt8) == [43] || ([c] : List UInt8) == [45] || ([c] : List UInt8) == [42] || ([c] : List UInt8) == [47] || ([c] : List UInt8) == [94] || ([c] : List UInt8) == [40] || ([c] : List UInt8) == [41]) := by
    intro c
    simp only [Lib.indexByte]
    by_cases h1 : c = 43
    · subst h1; rfl
    by_cases h2 : c = 45
    · subst h2; rfl
    by_cases h3 : c = 42
    · subst h3; rfl
    by_cases h4 : c = 47
    · subst h4; rfl
    by_cases h5 : c = 94
    · subst h5; rfl
    by_cases h6 : c = 40
    · subst h6; rfl
    by_cases h7 : c = 41
    · subst h7; rfl
    simp [h1, h2, h3, h4, h5, h6, h7, Ne.symm h1, Ne.symm h2, Ne.symm h3, Ne.symm h4, Ne.symm h5, Ne.symm h6, Ne.symm h7]
  exact key c
theorem punct_size {t : ByteArray} (h : t.size ≠ 1) : punctB t = false := by
  rw [punct_list]
  have key : ∀ c : UInt8, (t.data.toList == [c]) = false := by
    intro c
    rw [beq_eq_false_iff_ne]
    intro e
    refine h ?_
    have : t.data.toList.length = 1 := by rw [e]; rfl
    exact this
  simp only [key, Bool.or_self]
structure Tk where
  kind : Int
  n : Int
  t : ByteArray
deriving DecidableEq
abbrev encTk (k : Tk) : D := .agg [.i k.kind, .i k.n, .s k.t]
def okTk (k : Tk) : Bool := if k.kind = 1 then decide (0 ≤ k.n ∧ k.n ≤ 999999999) && k.t.toList == (ByteArray.mk #[]).toList else if k.kind = 2 then decide (0 ≤ k.n ∧ k.n ≤ 3) && k.t.toList == (ByteArray.mk #[]).toList else if k.kind = 3 then k.n == 0 && punctB k.t else false
instance (a n : Int) (t : ByteArray) : Con CC 19 [.d (.agg [.i a, .i n, .s t])] True (.d (.b (okTk ⟨a, n, t⟩))) := by
  constructor; intro _
  refine Den.pureI Tryd.func19 rfl 1 [.tmp 2] (by kernel_rfl) rfl rfl (by simp only [initE_nil, initE_cons, Nat.reduceAdd]; exact rfl) ?_
  repeat' first | (with_reducible first | refine nx' ?_ | refine n0 ?_ | refine rD ?_ | refine n1 ?_ | refine nilB_i fun b hb => ?_ | refine nP ?_ ?_ | refine nS fun K hK => ?_ | (refine n2 ?_ ?_ <;> intro h <;> first | subst (h : _ = true) | subst (h : _ = false) | skip) | refine And.intro ?_ ?_ | refine nK ‹Imp _ _› ?_) | exact nl | fail
  all_goals (congr 3; simp [okTk, *]; try omega)
instance (a n : Int) (t : ByteArray) : Con CC 9 [.d (.agg [.i a, .i n, .s t])] (t.size ≤ 9223372036854775807) (.d (.b (okTk ⟨a, n, t⟩))) := by
  constructor; intro ht
  refine Den.pureI Tryd.func9 rfl 1 [.tmp 2] (by kernel_rfl) rfl rfl (by simp only [initE_nil, initE_cons, Nat.reduceAdd]; exact rfl) ?_
  repeat' first | (with_reducible first | refine nx' ?_ | refine n0 ?_ | refine rD ?_ | refine n1 ?_ | refine nilB_i fun b hb => ?_ | refine nP ?_ ?_ | refine nS fun K hK => ?_ | (refine n2 ?_ ?_ <;> intro h <;> first | subst (h : _ = true) | subst (h : _ = false) | skip) | refine And.intro ?_ ?_ | refine nK ‹Imp _ _› ?_) | exact nl | fail
  all_goals (congr 3)
  all_goals (first | (simp [okTk, *]; done) | (simp [okTk, *]; omega) | (simp [okTk, *]; exact has1_punct (by omega)) | (simp [okTk, *]; exact punct_size (by omega)))
def textTk (k : Tk) : ByteArray := if k.kind = 1 then digB k.n.toNat else if k.kind = 2 then ByteArray.mk #[120] ++ digB k.n.toNat else k.t
theorem okTk_n {k : Tk} (h : okTk k = true) (hk : k.kind = 1 ∨ k.kind = 2) : ∃ m : Nat, k.n = m ∧ m ≤ 999999999 := by
  unfold okTk at h
  rcases hk with hk | hk
  · rw [if_pos hk] at h
    simp only [Bool.and_eq_true, decide_eq_true_eq] at h
    exact ⟨k.n.toNat, by omega, by omega⟩
  · rw [if_neg (by omega), if_pos hk] at h
    simp only [Bool.and_eq_true, decide_eq_true_eq] at h
    exact ⟨k.n.toNat, by omega, by omega⟩
theorem itoaB_nat (m : Nat) : itoaB (m : Int) = digB m := by unfold itoaB digB; rw [Lib.itoa_nonneg]
instance (a n : Int) (t : ByteArray) : Con CC 33 [.d (.agg [.i a, .i n, .s t])] (okTk ⟨a, n, t⟩ = true) (.d (.s (textTk ⟨a, n, t⟩))) := by
  constructor; intro hk
  by_cases h12 : a = 1 ∨ a = 2
  · obtain ⟨m, hm, hm2⟩ := okTk_n hk h12
    simp only at hm
    subst hm
    have hs := digB_size m
    have h1 : (ByteArray.mk #[120]).size = 1 := rfl
    refine Den.pureI Tryd.func33 rfl 1 [.tmp 2] (by kernel_rfl) rfl rfl (by simp only [initE_nil, initE_cons, Nat.reduceAdd]; exact rfl) ?_
    repeat' first | (with_reducible first | refine nx' ?_ (by simp -implicitDefEqProofs (disch := omega) only [go_sem, h1]; exact rfl) | refine n0 ?_ | refine rD ?_ | refine n1 ?_ | refine nilB_i fun b hb => ?_ | refine nP ?_ ?_ | refine nS fun K hK => ?_ | (refine n2 ?_ ?_ <;> intro h <;> first | subst (h : _ = true) | subst (h : _ = false) | (simp only [FX, LX, h1] at h) | skip) | refine And.intro ?_ ?_ | refine nK ‹Imp _ _› ?_) | exact nl | fail
    all_goals simp [textTk, *]
  · refine Den.pureI Tryd.func33 rfl 1 [.tmp 2] (by kernel_rfl) rfl rfl (by simp only [initE_nil, initE_cons, Nat.reduceAdd]; exact rfl) ?_
    repeat' first | (with_reducible first | refine nx' ?_ | refine n0 ?_ | refine rD ?_ | refine n1 ?_ | refine nilB_i fun b hb => ?_ | refine nP ?_ ?_ | refine nS fun K hK => ?_ | (refine n2 ?_ ?_ <;> intro h <;> first | subst (h : _ = true) | subst (h : _ = false) | skip) | refine And.intro ?_ ?_ | refine nK ‹Imp _ _› ?_) | exact nl | fail
    all_goals simp [textTk, *]
instance (a n : Int) (t : ByteArray) : Con CC 17 [.d (.agg [.i a, .i n, .s t])] (okTk ⟨a, n, t⟩ = true) (.d (.s (textTk ⟨a, n, t⟩))) := by
  constructor; intro hk
  by_cases h12 : a = 1 ∨ a = 2
  · obtain ⟨m, hm, hm2⟩ := okTk_n hk h12
    simp only at hm
    subst hm
    have hs := digB_size m
    have h1 : (ByteArray.mk #[120]).size = 1 := rfl
    have e1 := itoaB_nat m
    refine Den.pureI Tryd.func17 rfl 1 [.tmp 2] (by kernel_rfl) rfl rfl (by simp only [initE_nil, initE_cons, Nat.reduceAdd]; exact rfl) ?_
    repeat' first | (with_reducible first | refine nx' ?_ (by simp -implicitDefEqProofs (disch := omega) only [go_sem, h1, e1]; exact rfl) | refine n0 ?_ | refine rD ?_ | refine n1 ?_ | refine nilB_i fun b hb => ?_ | refine nP ?_ ?_ | refine nS fun K hK => ?_ | (refine n2 ?_ ?_ <;> intro h <;> first | subst (h : _ = true) | subst (h : _ = false) | (simp only [FX, LX, h1, e1] at h) | skip) | refine And.intro ?_ ?_ | refine nK ‹Imp _ _› ?_) | exact nl | fail
    all_goals simp [textTk, *]
  · refine Den.pureI Tryd.func17 rfl 1 [.tmp 2] (by kernel_rfl) rfl rfl (by simp only [initE_nil, initE_cons, Nat.reduceAdd]; exact rfl) ?_
    repeat' first | (with_reducible first | refine nx' ?_ | refine n0 ?_ | refine rD ?_ | refine n1 ?_ | refine nilB_i fun b hb => ?_ | refine nP ?_ ?_ | refine nS fun K hK => ?_ | (refine n2 ?_ ?_ <;> intro h <;> first | subst (h : _ = true) | subst (h : _ = false) | skip) | refine And.intro ?_ ?_ | refine nK ‹Imp _ _› ?_) | exact nl | fail
    all_goals simp [textTk, *]
instance (a n : Int) (t : ByteArray) : Con CC 8 [.d (.agg [.i a, .i n, .s t])] (t.size ≤ 9223372036854775807) (.tup [.d (.s (if okTk ⟨a, n, t⟩ then textTk ⟨a, n, t⟩ else ⟨#[]⟩)), .d (.i (if okTk ⟨a, n, t⟩ then 0 else 1))]) := by
  constructor; intro ht
  refine Den.pureI Tryd.func8 rfl 1 [.tmp 2, .tmp 3] (by kernel_rfl) rfl rfl (by simp only [initE_nil, initE_cons, Nat.reduceAdd]; exact rfl) ?_
  repeat' first | (with_reducible first | refine nx' ?_ | refine n0 ?_ | refine rD ?_ | refine n1 ?_ | refine nilB_i fun b hb => ?_ | refine nP ?_ ?_ | refine nS fun K hK => ?_ | (refine n2 ?_ ?_ <;> intro h <;> first | subst (h : _ = true) | subst (h : _ = false) | skip) | refine And.intro ?_ ?_ | refine nK ‹Imp _ _› ?_) | exact nl | fail
  all_goals (rw [h]; rfl)
end Go.PL

/- PlIdx -/
/- The place of the first that is so. -/
namespace Go.PL
/-- The place of the first that is so, -1 of none. -/
def idxOf {α : Type} (p : α → Bool) : List α → Int
  | [] => -1
  | x :: r => if p x then 0 else if idxOf p r < 0 then -1 else idxOf p r + 1
theorem idxOf_ge {α : Type} {p : α → Bool} : ∀ (l : List α), -1 ≤ idxOf p l
  | [] => by simp [idxOf]
  | x :: r => by have := idxOf_ge (p := p) r; simp only [idxOf]; split <;> (try split) <;> omega
theorem idxOf_at {α : Type} {p : α → Bool} (d : α) : ∀ (l : List α) (i : Nat), i < l.length → (∀ t, t < i → p (l.getD t d) = false) → p (l.getD i d) = true → idxOf p l = i
  | [], i, h, _, _ => by simp at h
  | x :: r, 0, _, _, hp => by simp only [idxOf]; rw [if_pos (by simpa using hp)]; rfl
  | x :: r, i + 1, h, hn, hp => by
    have h0 := hn 0 (by omega)
    have ih := idxOf_at d r i (by simpa using h) (fun t ht => by simpa using hn (t + 1) (by omega)) (by simpa using hp)
    simp only [idxOf]
    rw [if_neg (by simpa using h0), ih, if_neg (by omega)]; omega
theorem idxOf_none {α : Type} {p : α → Bool} (d : α) : ∀ (l : List α), (∀ t, t < l.length → p (l.getD t d) = false) → idxOf p l = -1
  | [], _ => rfl
  | x :: r, hn => by
    have h0 := hn 0 (by simp)
    have ih := idxOf_none d r (fun t ht => by simpa using hn (t + 1) (by simpa using ht))
    simp only [idxOf]
    rw [if_neg (by simpa using h0), ih, if_pos (by omega)]
theorem idxOf_any {α : Type} {p : α → Bool} : ∀ (l : List α), decide (0 ≤ idxOf p l) = l.any p
  | [] => rfl
  | x :: r => by
    have ih := idxOf_any (p := p) r
    have := idxOf_ge (p := p) r
    simp only [idxOf, List.any_cons]
    by_cases hp : p x = true
    · simp [hp]
    · simp only [Bool.not_eq_true] at hp
      simp only [hp, Bool.false_eq_true, if_false, Bool.false_or, ← ih]
      by_cases h : idxOf p r < 0
      · rw [if_pos h]; rw [decide_eq_false (by omega), decide_eq_false (by omega)]
      · rw [if_neg h]; rw [decide_eq_true (by omega), decide_eq_true (by omega)]
end Go.PL

/- AJ -/
namespace Go.PL
open Go Go.Proofs
set_option maxRecDepth 10000
set_option maxHeartbeats 4000000
set_option linter.unusedSimpArgs false
set_option linter.unusedVariables false
abbrev tk0 : Tk := ⟨0, 0, ⟨#[]⟩⟩
theorem encTk_eq {k : Tk} : encTk k = .agg [.i k.kind, .i k.n, .s k.t] := rfl
instance : Enc encTk 3 tk0 := ⟨fun _ => rfl, fun x => by simp [D.cells, D.one]⟩
theorem app_Tk {l : List Tk} {a b : Int} {t : ByteArray} : l.map encTk ++ [D.agg [.val (.int .i64 a), .val (.int .i64 b), .val (.string t)]] = (l ++ [(⟨a, b, t⟩ : Tk)]).map encTk := by simp
theorem set_Tk {l : List Tk} {k : Nat} {a b : Int} {t : ByteArray} : (l.map encTk).set k (D.agg [.val (.int .i64 a), .val (.int .i64 b), .val (.string t)]) = (l.set k (⟨a, b, t⟩ : Tk)).map encTk := by rw [List.map_set]
theorem Tk.eta {k : Tk} : Tk.mk k.kind k.n k.t = k := rfl
attribute [go_sem] encTk_eq app_Tk set_Tk Tk.eta
def bTks (l : List Tk) : Prop := l.length ≤ 1048576 ∧ ∀ k ∈ l, k.t.size ≤ 1048576
theorem bTks.get {l : List Tk} (h : bTks l) (i : Nat) : (l.getD i tk0).t.size ≤ 1048576 := by
  rw [List.getD]
  cases hi : l[i]? with
  | none => exact Nat.zero_le _
  | some r => exact h.2 r (List.mem_of_getElem? hi)
def pTks (l : List Tk) : Prop := l.length < 1152921504606846976 ∧ ∀ k ∈ l, k.t.size ≤ 1152921504606846976
theorem pTks.get {l : List Tk} (h : pTks l) (i : Nat) : (l.getD i tk0).t.size ≤ 1152921504606846976 := by
  rw [List.getD]
  cases hi : l[i]? with
  | none => exact Nat.zero_le _
  | some r => exact h.2 r (List.mem_of_getElem? hi)
def szTk (k : Tk) : Nat := k.t.size
def szTks (l : List Tk) : Nat := l.length + sumOf szTk l
theorem toList_beq {t u : ByteArray} : (t.toList == u.toList) = decide (t = u) := by
  rw [Bool.eq_iff_iff, beq_iff_eq, decide_eq_true_eq, ByteArray.toList_eq, ByteArray.toList_eq]
  exact ⟨fun h => ByteArray.ext (Array.toList_inj.1 h), fun h => by rw [h]⟩
end Go.PL

/- PlStr -/
/- Texts as lists of bytes. -/
namespace Go.PL
open Go
def strT (l : List UInt8) : ByteArray := ⟨l.toArray⟩
theorem strT_size {l : List UInt8} : (strT l).size = l.length := by simp [strT, ByteArray.size]
theorem strT_app {a b : List UInt8} : strT a ++ strT b = strT (a ++ b) := by
  apply ByteArray.ext
  simp [strT, ByteArray.data_append]
theorem strT_ext (l : List UInt8) (a b : Nat) : (strT l).extract a b = strT ((l.drop a).take (b - a)) := by
  unfold strT
  apply ByteArray.ext
  simp [ByteArray.data_extract]
theorem strT_inj {a b : List UInt8} : strT a = strT b ↔ a = b := by
  constructor
  · intro h
    have := congrArg (fun t : ByteArray => t.data.toList) h
    simpa [strT] using this
  · rintro rfl; rfl
theorem strT_eq {a b : List UInt8} : ((strT a).toList == (strT b).toList) = decide (a = b) := by
  rw [Bool.eq_iff_iff, beq_iff_eq, decide_eq_true_eq, ByteArray.toList_eq, ByteArray.toList_eq]
  exact ⟨fun h => strT_inj.1 (ByteArray.ext (Array.toList_inj.1 h)), fun h => by rw [h]⟩
end Go.PL

/- PlNew -/
/- Calls that hand out objects, and calls that write to the caller's objects; the steps of the walk over them. -/
namespace Go.PL
open Go
/-- The end of a walk: what is handed out, less known of the frame; behind the objects that stay, others are left. -/
def finG (T : Tab) (m : Nat) (rs : List ResultVar) (vs : List V) (os' : List Ob) (s : St) : Prop :=
  ∃ s' tl, Weak m s s' ∧ resVs T s' rs = some vs ∧ s'.os = os' ++ tl ∧ vs.map (asD s'.os) = vs
theorem finG_of {T : Tab} {m : Nat} {rs : List ResultVar} {vs : List V} {os' : List Ob} {s : St} (env : List (Nat × V)) (tl : List Ob) (hw : Weak m s ⟨env, os' ++ tl⟩)
    (h1 : resVs T ⟨env, os' ++ tl⟩ rs = some vs := by exact rfl) (h2 : vs.map (asD (os' ++ tl)) = vs := by exact rfl) : finG T m rs vs os' s := ⟨_, tl, hw, h1, rfl, h2⟩
theorem Den.newG {P : Program} {T : Tab} [TOk T P] {X : Call} {f : FuncId} {fn : Func} {body : Code} {a : List V} {vs : List V} {r : V} {env : List (Nat × V)} {os os' : List Ob} (hf : P.funcs[f]? = some fn) (hb : fn.body = some body) (n m : Nat) (rs : List ResultVar)
    (ho : okFn fn n = true) (hn : a.length = n) (hrs : fn.results.toList = rs) (he : initE 0 a = env) (hv : resOf vs = r) (hm : os.length = m) (hl : m ≤ os'.length) (hr : r.bndR os'.length = true) (hd : os'.all (Ob.bnd os'.length) = true)
    (h : Wp T (Den P T X) m body ⟨env, os⟩ (endQ (finG T m rs vs os'))) : Den P T X f a os r os' := by
  subst hm
  subst hv
  refine Den.of hf hb n ho hn (.mono (by rw [init_eq, he]; exact h) ?_)
  have key : ∀ s, finG T os.length rs vs os' s → ∃ s', Weak os.length s s' ∧ Ends T fn os.length s' (resOf vs) os' := by
    rintro s ⟨s', tl, h1, h2, h3, h4⟩
    exact ⟨s', h1, .mk vs tl (by rw [hrs]; exact h2) (by rw [h4]; exact .refl _) h3 hl hr hd⟩
  intro e s hs
  cases e with
  | ret => exact ⟨.inl rfl, key s hs⟩
  | normal => exact ⟨.inr rfl, key s hs⟩
  | exit n => exact hs.elim
section
variable {T : Tab} {C : Call} {nF : Nat} {env : List (Nat × V)} {os : List Ob} {K : St → Prop} {f : Operand} {args : List Operand} {ats : Array TypeId} {n : FuncId} {us : List V} {l : List Nat}
theorem wCN0 {N : List Ob} {r : V} (e : callV (ev env f) (evL env args) os = some (n, us, l)) (h : C n us [] r N) (hN : N.all Ob.plain = true) (hs : r.scal = false) (k : K ⟨env, freeze os l ++ N⟩) :
    op1R T C nF none (.call { callee := .value f, args := args.toArray, argTypes := ats }) ⟨env, os⟩ K := by
  obtain ⟨vs, ds, h1, h2, h3⟩ := callV_inv e
  rw [r1_call0, h1]
  refine .inl ⟨ds, l, r, N, h2, by rw [dV_eq] at h3; rw [h3]; exact h, hN, ?_⟩
  simp only [hs, Bool.false_eq_true, false_and, if_false]
  exact k
theorem wCm0 {os' : List Ob} {r : V} (e : calleeR (ev env f) (evL env args) = some (n, us)) (h : C n us os r os') (k : K ⟨env, os'⟩) :
    op1R T C nF none (.call { callee := .value f, args := args.toArray, argTypes := ats }) ⟨env, os⟩ K := by
  rw [r1_call0, e]
  exact .inr ⟨r, os', h, k⟩
end
def sh1L (n : Nat) : List V → List V
  | [] => []
  | x :: r => V.shift1 n x :: sh1L n r
def sh2L (n : Nat) : List V → List V
  | [] => []
  | x :: r => V.shift2 n x :: sh2L n r
theorem sh1L_eq {n : Nat} : ∀ l, l.map (V.shift1 n) = sh1L n l
  | [] => rfl
  | x :: r => by rw [List.map_cons, sh1L_eq r]; rfl
theorem sh2L_eq {n : Nat} : ∀ l, l.map (V.shift2 n) = sh2L n l
  | [] => rfl
  | x :: r => by rw [List.map_cons, sh2L_eq r]; rfl
theorem sh_tup {n : Nat} {cs : List V} : V.shift n (.tup cs) = .tup (sh2L n cs) := by show V.tup (cs.map _) = _; rw [sh2L_eq]
theorem sh_agg {n : Nat} {cs : List V} : V.shift n (.agg cs) = .agg (sh1L n cs) := by show V.agg (cs.map _) = _; rw [sh1L_eq]
theorem sh_d {n : Nat} {x : D} : V.shift n (.d x) = .d x := rfl
theorem sh_ref {n o i j : Nat} : V.shift n (.ref o i j) = .ref (n + o) i j := rfl
theorem sh2_agg {n : Nat} {cs : List V} : V.shift2 n (.agg cs) = .agg (sh1L n cs) := by show V.agg (cs.map _) = _; rw [sh1L_eq]
theorem sh2_d {n : Nat} {x : D} : V.shift2 n (.d x) = .d x := rfl
theorem sh2_ref {n o i j : Nat} : V.shift2 n (.ref o i j) = .ref (n + o) i j := rfl
theorem sh2_msl {n o i j : Nat} : V.shift2 n (.msl o i j) = .msl (n + o) i j := rfl
theorem sh1_d {n : Nat} {x : D} : V.shift1 n (.d x) = .d x := rfl
theorem sh1_ref {n o i j : Nat} : V.shift1 n (.ref o i j) = .ref (n + o) i j := rfl
theorem sh1_msl {n o i j : Nat} : V.shift1 n (.msl o i j) = .msl (n + o) i j := rfl
theorem sh1L_nil {n : Nat} : sh1L n [] = [] := rfl
theorem sh1L_cons {n : Nat} {x : V} {r : List V} : sh1L n (x :: r) = V.shift1 n x :: sh1L n r := rfl
theorem sh2L_nil {n : Nat} : sh2L n [] = [] := rfl
theorem sh2L_cons {n : Nat} {x : V} {r : List V} : sh2L n (x :: r) = V.shift2 n x :: sh2L n r := rfl
theorem ren_agg {f : Nat → Nat} {cs : List V} : V.ren f (.agg cs) = .agg (cs.map (V.ren1 f)) := rfl
attribute [go_sem] sh_tup sh_agg sh_d sh_ref sh2_agg sh2_d sh2_ref sh2_msl sh1_d sh1_ref sh1_msl sh1L_nil sh1L_cons sh2L_nil sh2L_cons
/-- A call that hands out objects. -/
theorem nPn {C : Call} {n : FuncId} {vs : List V} {r : V} {N : List Ob} {P Q : Prop} (hc : C n vs [] r N) (h2 : Q) (e : C n vs [] r N → Q → P := by
  intro a b
  first
  | (refine wCN (by simp -implicitDefEqProofs (disch := omega) only [callV, go_sem]; first | done | exact rfl | fail) a rfl rfl ?_; refine Eq.mpr ?_ b; simp -implicitDefEqProofs (disch := omega) only [go_sem]; exact rfl)
  | (refine wCN0 (by simp -implicitDefEqProofs (disch := omega) only [callV, go_sem]; first | done | exact rfl | fail) a rfl rfl ?_; refine Eq.mpr ?_ b; simp -implicitDefEqProofs (disch := omega) only [go_sem]; exact rfl)
  | fail) : P := e hc h2
/-- A call that works on the caller's objects. -/
theorem nPm {C : Call} {n : FuncId} {vs : List V} {os os' : List Ob} {r : V} {P Q : Prop} (hc : C n vs os r os') (h2 : Q) (e : C n vs os r os' → Q → P := by
  intro a b
  first
  | (refine wCm (by simp -implicitDefEqProofs (disch := omega) only [calleeR, go_sem]; first | done | exact rfl | fail) a ?_; refine Eq.mpr ?_ b; simp -implicitDefEqProofs (disch := omega) only [go_sem]; exact rfl)
  | (refine wCm0 (by simp -implicitDefEqProofs (disch := omega) only [calleeR, go_sem]; first | done | exact rfl | fail) a ?_; refine Eq.mpr ?_ b; simp -implicitDefEqProofs (disch := omega) only [go_sem]; exact rfl)
  | fail) : P := e hc h2
end Go.PL
