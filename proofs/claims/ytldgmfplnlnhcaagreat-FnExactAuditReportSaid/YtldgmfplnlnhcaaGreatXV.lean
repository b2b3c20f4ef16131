/- A plain machine, sound for the given model, and contracts of functions over it, part 28: XV. Nothing is assumed. -/
import Derived.Test.YtldgmfplnlnhcaaGreatG27
set_option linter.unusedSimpArgs false
set_option linter.unusedVariables false
set_option linter.unusedSectionVars false
/- XV -/
namespace Go.PL
open Go Go.Proofs
set_option maxRecDepth 10000
set_option maxHeartbeats 4000000
set_option linter.unusedSimpArgs false
set_option linter.unusedVariables false
abbrev vV (l : List Rat) : V := .d (.sl (l.map encX))
abbrev alongX (n : Nat) (p : Nat → Rat) : List Rat := (List.range n).map p
theorem alongX_len {n : Nat} {p : Nat → Rat} : (alongX n p).length = n := by simp [alongX]
theorem range_snoc {n : Nat} {p : Nat → Rat} : alongX n p ++ [p n] = alongX (n + 1) p := by simp [alongX, List.range_succ]
instance (n : Nat) : Con CC 68 [.d (.i n)] (n ≤ 1000) (vV (alongX n fun _ => 0)) := by
  constructor; intro hn
  refine Den.pureI Tryz.func68 rfl 1 [.tmp 2] (by kernel_rfl) rfl rfl (by simp only [initE_nil, initE_cons, Nat.reduceAdd]; exact rfl) ?_
  repeat' first | (with_reducible first | refine nx' ?_ | refine n0 ?_ | refine rD ?_ | refine n1 ?_ | refine nilB_i fun b hb => ?_ | refine nP ?_ ?_ | refine nS fun K hK => ?_ | (refine n2 ?_ ?_ <;> intro h <;> first | subst (h : _ = true) | subst (h : _ = false) | skip) | refine And.intro ?_ ?_ | refine nK ‹Imp _ _› ?_) | exact nl | fail
  refine Wp.loopR (fun i : Nat => ⟨[(0, .d (.i n)), (3, .msl 0 0 i), (4, .d (.i i))], [.arr 3 ((alongX i fun _ => 0).map encX) false]⟩) (fun i => n - i) (fun i => i ≤ n) 0 Weak.lo (by simp) ?_
  rintro i hi K hK
  have e := range_snoc (n := i) (p := fun _ => 0)
  repeat' first | (with_reducible first | refine nx' ?_ (by simp -implicitDefEqProofs (disch := omega) only [go_sem, alongX_len, e]; exact rfl) | refine n0 ?_ | refine rD ?_ | refine n1 ?_ | refine nilB_i fun b hb => ?_ | refine nP ?_ ?_ | refine nS fun K hK => ?_ | (refine n2 ?_ ?_ <;> intro h <;> first | subst (h : _ = true) | subst (h : _ = false) | (simp only [FX, LX, alongX_len, e] at h) | skip) | refine And.intro ?_ ?_ | refine nK ‹Imp _ _› ?_) | exact nl | fail
  · exact ⟨i + 1, by omega, by omega, Weak.cu⟩
  · obtain rfl : i = n := by omega
    rw [List.take_of_length_le (by simp)]
instance (n : Nat) : Con CC 182 [.d (.i n)] (n ≤ 1000) (vV (alongX n fun _ => 0)) := by
  constructor; intro hn
  refine Den.pureI Tryz.func182 rfl 1 [.tmp 2] (by kernel_rfl) rfl rfl (by simp only [initE_nil, initE_cons, Nat.reduceAdd]; exact rfl) ?_
  repeat' first | (with_reducible first | refine nx' ?_ | refine n0 ?_ | refine rD ?_ | refine n1 ?_ | refine nilB_i fun b hb => ?_ | refine nP ?_ ?_ | refine nS fun K hK => ?_ | (refine n2 ?_ ?_ <;> intro h <;> first | subst (h : _ = true) | subst (h : _ = false) | skip) | refine And.intro ?_ ?_ | refine nK ‹Imp _ _› ?_) | exact nl | fail
  refine Wp.loopR (fun i : Nat => ⟨[(5, .d (.i n)), (3, .msl 0 0 i), (6, .d (.i i))], [.arr 3 ((alongX i fun _ => 0).map encX) false]⟩) (fun i => n - i) (fun i => i ≤ n) 0 Weak.lo (by simp) ?_
  rintro i hi K hK
  have e := range_snoc (n := i) (p := fun _ => 0)
  repeat' first | (with_reducible first | refine nx' ?_ (by simp -implicitDefEqProofs (disch := omega) only [go_sem, alongX_len, e]; exact rfl) | refine n0 ?_ | refine rD ?_ | refine n1 ?_ | refine nilB_i fun b hb => ?_ | refine nP ?_ ?_ | refine nS fun K hK => ?_ | (refine n2 ?_ ?_ <;> intro h <;> first | subst (h : _ = true) | subst (h : _ = false) | (simp only [FX, LX, alongX_len, e] at h) | skip) | refine And.intro ?_ ?_ | refine nK ‹Imp _ _› ?_) | exact nl | fail
  · exact ⟨i + 1, by omega, by omega, Weak.cu⟩
  · obtain rfl : i = n := by omega
    rw [List.take_of_length_le (by simp)]
theorem vecOf_c (g : FuncId) (cap : List D) (n : Nat) (p : Nat → Rat) (hn : n ≤ 1000) (hp : ∀ i, i < n → CC g (.d (.i i) :: dV cap) [] (xV (p i)) []) (hL : ∀ i, i < n → Ln 2000 (p i)) :
    CC 131 [.d (.i n), .d (.fn (.func g) [] cap)] [] (vV (alongX n p)) [] := by
  refine Den.pureI Tryz.func131 rfl 2 [.tmp 4] (by kernel_rfl) rfl rfl (by simp only [initE_nil, initE_cons, Nat.reduceAdd]; exact rfl) ?_
  repeat' first | (with_reducible first | refine nx' ?_ | refine n0 ?_ | refine rD ?_ | refine n1 ?_ | refine nilB_i fun b hb => ?_ | refine nP ?_ ?_ | refine nS fun K hK => ?_ | (refine n2 ?_ ?_ <;> intro h <;> first | subst (h : _ = true) | subst (h : _ = false) | skip) | refine And.intro ?_ ?_ | refine nK ‹Imp _ _› ?_) | exact nl | fail
  refine Wp.loopR (fun i : Nat => ⟨[(1, .d (.fn (.func g) [] cap)), (5, .msl 0 0 i), (8, .d (.i n)), (9, .d (.i i))], [.arr 3 ((alongX i p).map encX) false]⟩) (fun i => n - i) (fun i => i ≤ n) 0 Weak.lo (by simp) ?_
  rintro i hi K hK
  by_cases hin : i < n
  · have hpi := hp i hin
    obtain ⟨h1, h2⟩ := hL i hin
    rw [← nuX_len] at h1
    rw [← deX_len] at h2
    have e := range_snoc (n := i) (p := p)
    repeat' first | (with_reducible first | refine nx' ?_ (by simp -implicitDefEqProofs (disch := omega) only [go_sem, alongX_len, e]; exact rfl) | refine n0 ?_ | refine rD ?_ | refine n1 ?_ | refine nilB_i fun b hb => ?_ | refine nPc (hpi) ?_ | refine nP ?_ ?_ | refine nS fun K hK => ?_ | (refine n2 ?_ ?_ <;> intro h <;> first | subst (h : _ = true) | subst (h : _ = false) | (simp only [FX, LX, alongX_len, e] at h) | skip) | refine And.intro ?_ ?_ | refine nK ‹Imp _ _› ?_) | exact nl | fail
    exact ⟨i + 1, by omega, by omega, Weak.cu⟩
  · repeat' first | (with_reducible first | refine nx' ?_ | refine n0 ?_ | refine rD ?_ | refine n1 ?_ | refine nilB_i fun b hb => ?_ | refine nP ?_ ?_ | refine nS fun K hK => ?_ | (refine n2 ?_ ?_ <;> intro h <;> first | subst (h : _ = true) | subst (h : _ = false) | skip) | refine And.intro ?_ ?_ | refine nK ‹Imp _ _› ?_) | exact nl | fail
    obtain rfl : i = n := by omega
    rw [List.take_of_length_le (by simp)]
instance (l : List Rat) (i : Nat) : Con CC 132 [.d (.i i), .d (.ptr [.sl (l.map encX)])] (i < l.length) (xV (l.getD i 0)) := by
  constructor; intro hi
  refine Den.pureI Tryz.func132 rfl 2 [.cell 3 42] (by kernel_rfl) rfl rfl (by simp only [initE_nil, initE_cons, Nat.reduceAdd]; exact rfl) ?_
  repeat' first | (with_reducible first | refine nx' ?_ | refine n0 ?_ | refine rD ?_ | refine n1 ?_ | refine nilB_i fun b hb => ?_ | refine nP ?_ ?_ | refine nS fun K hK => ?_ | (refine n2 ?_ ?_ <;> intro h <;> first | subst (h : _ = true) | subst (h : _ = false) | skip) | refine And.intro ?_ ?_ | refine nK ‹Imp _ _› ?_) | exact nl | fail
theorem alongX_get {l : List Rat} {n : Nat} (h : l.length = n) : (alongX n fun i => l.getD i 0) = l := by
  refine List.ext_getElem (by simp [alongX, h]) fun i h1 h2 => ?_
  simp [alongX, List.getD, List.getElem?_eq_getElem h2]
def LnV (a : Nat) (l : List Rat) : Prop := ∀ x ∈ l, Ln a x
theorem LnV.get {a : Nat} {l : List Rat} (h : LnV a l) {i : Nat} (hi : i < l.length) : Ln a (l.getD i 0) := h _ (getD_mem 0 hi)
instance (l : List Rat) : Con CC 86 [vV l] (l.length ≤ 1000 ∧ LnV 2000 l) (vV l) := by
  constructor; intro ⟨hl, hL⟩
  have h := vecOf_c 132 [.ptr [.sl (l.map encX)]] l.length (fun i => l.getD i 0) hl (fun i hi => Con.ok (C := CC) (vs := [.d (.i i), .d (.ptr [.sl (l.map encX)])]) hi) (fun i hi => hL.get hi)
  rw [alongX_get rfl] at h
  refine Den.pureI Tryz.func86 rfl 1 [.tmp 2] (by kernel_rfl) rfl rfl (by simp only [initE_nil, initE_cons, Nat.reduceAdd]; exact rfl) ?_
  repeat' first | (with_reducible first | refine nx' ?_ | refine n0 ?_ | refine rD ?_ | refine n1 ?_ | refine nilB_i fun b hb => ?_ | refine nPc (h) ?_ | refine nP ?_ ?_ | refine nS fun K hK => ?_ | (refine n2 ?_ ?_ <;> intro h <;> first | subst (h : _ = true) | subst (h : _ = false) | skip) | refine And.intro ?_ ?_ | refine nK ‹Imp _ _› ?_) | exact nl | fail
instance (l m : List Rat) (i : Nat) : Con CC 133 [.d (.i i), .d (.ptr [.sl (l.map encX)]), .d (.ptr [.sl (m.map encX)])] (i < l.length ∧ i < m.length ∧ LnV 800 l ∧ LnV 800 m) (xV (l.getD i 0 - m.getD i 0)) := by
  constructor; intro ⟨hi, hj, hl, hm⟩
  have h1 := hl.get hi
  have h2 := hm.get hj
  refine Den.pureI Tryz.func133 rfl 3 [.cell 4 42] (by kernel_rfl) rfl rfl (by simp only [initE_nil, initE_cons, Nat.reduceAdd]; exact rfl) ?_
  repeat' first | (with_reducible first | refine nx' ?_ | refine n0 ?_ | refine rD ?_ | refine n1 ?_ | refine nilB_i fun b hb => ?_ | refine nP ?_ ?_ | refine nS fun K hK => ?_ | (refine n2 ?_ ?_ <;> intro h <;> first | subst (h : _ = true) | subst (h : _ = false) | skip) | refine And.intro ?_ ?_ | refine nK ‹Imp _ _› ?_) | exact nl | fail
def subV (l m : List Rat) : List Rat := alongX l.length fun i => l.getD i 0 - m.getD i 0
instance (l m : List Rat) : Con CC 87 [vV l, vV m] (l.length ≤ 1000 ∧ l.length ≤ m.length ∧ LnV 800 l ∧ LnV 800 m) (vV (subV l m)) := by
  constructor; intro ⟨h0, h1, hl, hm⟩
  have h := vecOf_c 133 [.ptr [.sl (l.map encX)], .ptr [.sl (m.map encX)]] l.length (fun i => l.getD i 0 - m.getD i 0) h0 (fun i hi => Con.ok (C := CC) (vs := [.d (.i i), .d (.ptr [.sl (l.map encX)]), .d (.ptr [.sl (m.map encX)])]) ⟨hi, by omega, hl, hm⟩)
    (fun i hi => by rw [Rat.sub_eq_add_neg]; exact ((hl.get hi).add (hm.get (show i < m.length by omega)).neg).mono (by omega))
  refine Den.pureI Tryz.func87 rfl 2 [.tmp 4] (by kernel_rfl) rfl rfl (by simp only [initE_nil, initE_cons, Nat.reduceAdd]; exact rfl) ?_
  repeat' first | (with_reducible first | refine nx' ?_ | refine n0 ?_ | refine rD ?_ | refine n1 ?_ | refine nilB_i fun b hb => ?_ | refine nPc (h) ?_ | refine nP ?_ ?_ | refine nS fun K hK => ?_ | (refine n2 ?_ ?_ <;> intro h <;> first | subst (h : _ = true) | subst (h : _ = false) | skip) | refine And.intro ?_ ?_ | refine nK ‹Imp _ _› ?_) | exact nl | fail
  rfl
def dotN (l m : List Rat) : Nat → Rat
  | 0 => 0
  | i + 1 => dotN l m i + l.getD i 0 * m.getD i 0
def dotR (l m : List Rat) : Rat := dotN l m l.length
theorem Ln.zero : Ln 1 0 := by
  refine ⟨?_, ?_⟩
  · show (digs 0).length ≤ _; rw [digs_zero]; simp
  · show (digs 1).length ≤ _; rw [digs_one]; simp
theorem dotN_len {a b : Nat} {l m : List Rat} (hl : LnV a l) (hm : LnV b m) (h : l.length ≤ m.length) : ∀ i, i ≤ l.length → Ln (1 + i * (a + b + 1)) (dotN l m i)
  | 0, _ => Ln.zero.mono (by omega)
  | i + 1, hi => by
    have h1 := dotN_len hl hm h i (by omega)
    have h2 := (hl.get (show i < l.length by omega)).mul (hm.get (show i < m.length by omega))
    exact (h1.add h2).mono (by rw [Nat.succ_mul]; omega)
theorem dot_bnd {i n a b : Nat} (hi : i < n) (hn : n ≤ 4) (h : 3 * (a + b + 1) ≤ 799) : 1 + i * (a + b + 1) ≤ 800 := by
  have := Nat.mul_le_mul_right (a + b + 1) (show i ≤ 3 by omega)
  omega
theorem dotS_c {a b : Nat} (l m : List Rat) (hn : l.length ≤ 4) (h : l.length ≤ m.length) (hl : LnV a l) (hm : LnV b m) (hab : 3 * (a + b + 1) ≤ 799) : CC 111 [vV l, vV m] [] (xV (dotR l m)) [] := by
  refine Den.pureI Tryz.func111 rfl 2 [.cell 4 42] (by kernel_rfl) rfl rfl (by simp only [initE_nil, initE_cons, Nat.reduceAdd]; exact rfl) ?_
  repeat' first | (with_reducible first | refine nx' ?_ | refine n0 ?_ | refine Wp.drawR (by decide +kernel) ?_ | refine Wp.drawSR [9, 10, 11] [false, false, false, false, false, false, false, false, false, true, true, true] (.op 9 [0] (.op 10 [] (.op 11 [] .done))) (by decide +kernel) ?_ | refine n1 ?_ | refine nilB_i fun b hb => ?_ | refine nP ?_ ?_ | refine nS fun K hK => ?_ | (refine n2 ?_ ?_ <;> intro h <;> first | subst (h : _ = true) | subst (h : _ = false) | skip) | refine And.intro ?_ ?_ | refine nK ‹Imp _ _› ?_) | exact nl | fail
  refine Wp.loopR (fun i : Nat => ⟨[(0, vV l), (1, vV m), (4, .ref 0 0 0), (5, .ref 1 0 0), (6, .d (.i i))], [.var [.d (.b false), .d (.val (.slice none 0 0)), .d (.val (.slice none 0 0))] false, .var [.d (.b (sgX (dotN l m i))), .d (encD (nuX (dotN l m i))), .d (encD (deX (dotN l m i)))] false]⟩) (fun i => l.length - i) (fun i => i ≤ l.length) 0 Weak.lo (by simp) ?_
  rintro i hi K hK
  by_cases hil : i < l.length
  · have h1 := hl.get hil
    have h2 := hm.get (show i < m.length by omega)
    have h3 := (h1.mul h2).mono (show a + b ≤ 800 by omega)
    have h4 := (dotN_len hl hm h i hi).mono (dot_bnd hil hn hab)
    have h1 := h1.mono (show a ≤ 800 by omega)
    have h2 := h2.mono (show b ≤ 800 by omega)
    repeat' first | (with_reducible first | refine nx' ?_ | refine n0 ?_ | refine Wp.drawR (by decide +kernel) ?_ | refine Wp.drawSR [9, 10, 11] [false, false, false, false, false, false, false, false, false, true, true, true] (.op 9 [0] (.op 10 [] (.op 11 [] .done))) (by decide +kernel) ?_ | refine n1 ?_ | refine nilB_i fun b hb => ?_ | refine nP ?_ ?_ | refine nS fun K hK => ?_ | (refine n2 ?_ ?_ <;> intro h <;> first | subst (h : _ = true) | subst (h : _ = false) | skip) | refine And.intro ?_ ?_ | refine nK ‹Imp _ _› ?_) | exact nl | fail
    exact ⟨i + 1, by omega, by omega, Weak.lo⟩
  · repeat' first | (with_reducible first | refine nx' ?_ | refine n0 ?_ | refine Wp.drawR (by decide +kernel) ?_ | refine Wp.drawSR [9, 10, 11] [false, false, false, false, false, false, false, false, false, true, true, true] (.op 9 [0] (.op 10 [] (.op 11 [] .done))) (by decide +kernel) ?_ | refine n1 ?_ | refine nilB_i fun b hb => ?_ | refine nP ?_ ?_ | refine nS fun K hK => ?_ | (refine n2 ?_ ?_ <;> intro h <;> first | subst (h : _ = true) | subst (h : _ = false) | skip) | refine And.intro ?_ ?_ | refine nK ‹Imp _ _› ?_) | exact nl | fail
    obtain rfl : i = l.length := by omega
    rfl
theorem dotI_c {a b : Nat} (l m : List Rat) (hn : l.length ≤ 4) (h : l.length ≤ m.length) (hl : LnV a l) (hm : LnV b m) (hab : 3 * (a + b + 1) ≤ 799) : CC 88 [vV l, vV m] [] (xV (dotR l m)) [] := by
  refine Den.pureI Tryz.func88 rfl 2 [.cell 4 42] (by kernel_rfl) rfl rfl (by simp only [initE_nil, initE_cons, Nat.reduceAdd]; exact rfl) ?_
  repeat' first | (with_reducible first | refine nx' ?_ | refine n0 ?_ | refine Wp.drawR (by decide +kernel) ?_ | refine Wp.drawSR [6, 7, 8] [false, false, false, false, false, false, true, true, true] (.op 6 [0] (.op 7 [] (.op 8 [] .done))) (by decide +kernel) ?_ | refine n1 ?_ | refine nilB_i fun b hb => ?_ | refine nP ?_ ?_ | refine nS fun K hK => ?_ | (refine n2 ?_ ?_ <;> intro h <;> first | subst (h : _ = true) | subst (h : _ = false) | skip) | refine And.intro ?_ ?_ | refine nK ‹Imp _ _› ?_) | exact nl | fail
  refine Wp.loopR (fun i : Nat => ⟨[(9, vV l), (1, vV m), (4, .ref 0 0 0), (5, .ref 1 0 0), (10, .d (.i l.length)), (11, .d (.i i))], [.var [.d (.b false), .d (.val (.slice none 0 0)), .d (.val (.slice none 0 0))] false, .var [.d (.b (sgX (dotN l m i))), .d (encD (nuX (dotN l m i))), .d (encD (deX (dotN l m i)))] false]⟩) (fun i => l.length - i) (fun i => i ≤ l.length) 0 Weak.lo (by simp) ?_
  rintro i hi K hK
  by_cases hil : i < l.length
  · have h1 := hl.get hil
    have h2 := hm.get (show i < m.length by omega)
    have h3 := (h1.mul h2).mono (show a + b ≤ 800 by omega)
    have h4 := (dotN_len hl hm h i hi).mono (dot_bnd hil hn hab)
    have h1 := h1.mono (show a ≤ 800 by omega)
    have h2 := h2.mono (show b ≤ 800 by omega)
    repeat' first | (with_reducible first | refine nx' ?_ | refine n0 ?_ | refine Wp.drawR (by decide +kernel) ?_ | refine Wp.drawSR [6, 7, 8] [false, false, false, false, false, false, true, true, true] (.op 6 [0] (.op 7 [] (.op 8 [] .done))) (by decide +kernel) ?_ | refine n1 ?_ | refine nilB_i fun b hb => ?_ | refine nP ?_ ?_ | refine nS fun K hK => ?_ | (refine n2 ?_ ?_ <;> intro h <;> first | subst (h : _ = true) | subst (h : _ = false) | skip) | refine And.intro ?_ ?_ | refine nK ‹Imp _ _› ?_) | exact nl | fail
    exact ⟨i + 1, by omega, by omega, Weak.cu⟩
  · repeat' first | (with_reducible first | refine nx' ?_ | refine n0 ?_ | refine Wp.drawR (by decide +kernel) ?_ | refine Wp.drawSR [6, 7, 8] [false, false, false, false, false, false, true, true, true] (.op 6 [0] (.op 7 [] (.op 8 [] .done))) (by decide +kernel) ?_ | refine n1 ?_ | refine nilB_i fun b hb => ?_ | refine nP ?_ ?_ | refine nS fun K hK => ?_ | (refine n2 ?_ ?_ <;> intro h <;> first | subst (h : _ = true) | subst (h : _ = false) | skip) | refine And.intro ?_ ?_ | refine nK ‹Imp _ _› ?_) | exact nl | fail
    obtain rfl : i = l.length := by omega
    rfl
def axV (k : Rat) (l m : List Rat) : List Rat := alongX l.length fun i => k * l.getD i 0 + m.getD i 0
instance (k : Rat) (l m : List Rat) : Con CC 110 [xV k, vV l, vV m] (l.length ≤ 1000 ∧ l.length ≤ m.length ∧ Ln 400 k ∧ LnV 400 l ∧ LnV 800 m) (vV (axV k l m)) := by
  constructor; intro ⟨hn, h, hk, hl, hm⟩
  refine Den.pureI Tryz.func110 rfl 3 [.tmp 6] (by kernel_rfl) rfl rfl (by simp only [initE_nil, initE_cons, Nat.reduceAdd]; exact rfl) ?_
  repeat' first | (with_reducible first | refine nx' ?_ | refine n0 ?_ | refine Wp.drawR (by decide +kernel) ?_ | refine Wp.drawSR [6, 11, 12, 13, 14] [false, false, false, false, false, false, true, false, false, false, false, true, true, true, true] (.op 6 [0,7,8,9,10] (.op 11 [0] (.op 12 [0] (.op 13 [] (.op 14 [] .done))))) (by decide +kernel) ?_ | refine n1 ?_ | refine nilB_i fun b hb => ?_ | refine nP ?_ ?_ | refine nS fun K hK => ?_ | (refine n2 ?_ ?_ <;> intro h <;> first | subst (h : _ = true) | subst (h : _ = false) | skip) | refine And.intro ?_ ?_ | refine nK ‹Imp _ _› ?_) | exact nl | fail
  refine Wp.loopR (fun i : Nat => ⟨[(1, vV l), (2, vV m), (3, .ref 0 0 0), (7, .msl 1 0 i), (8, .d (.i i))], [.var [.d (.b (sgX k)), .d (encD (nuX k)), .d (encD (deX k))] false, .arr 3 ((alongX i fun i => k * l.getD i 0 + m.getD i 0).map encX) false]⟩) (fun i => l.length - i) (fun i => i ≤ l.length) 0 Weak.lo (by simp) ?_
  rintro i hi K hK
  have e := range_snoc (n := i) (p := fun i => k * l.getD i 0 + m.getD i 0)
  by_cases hil : i < l.length
  · have h1 := hl.get hil
    have h2 := hm.get (show i < m.length by omega)
    have h3 := (hk.mul h1).mono (show 400 + 400 ≤ 800 by omega)
    have h1 := h1.mono (show 400 ≤ 800 by omega)
    have hk := hk.mono (show 400 ≤ 800 by omega)
    repeat' first | (with_reducible first | refine nx' ?_ (by simp -implicitDefEqProofs (disch := omega) only [go_sem, alongX_len, e]; exact rfl) | refine n0 ?_ | refine Wp.drawR (by decide +kernel) ?_ | refine Wp.drawSR [6, 11, 12, 13, 14] [false, false, false, false, false, false, true, false, false, false, false, true, true, true, true] (.op 6 [0,7,8,9,10] (.op 11 [0] (.op 12 [0] (.op 13 [] (.op 14 [] .done))))) (by decide +kernel) ?_ | refine n1 ?_ | refine nilB_i fun b hb => ?_ | refine nP ?_ ?_ | refine nS fun K hK => ?_ | (refine n2 ?_ ?_ <;> intro h <;> first | subst (h : _ = true) | subst (h : _ = false) | (simp only [FX, LX, alongX_len, e] at h) | skip) | refine And.intro ?_ ?_ | refine nK ‹Imp _ _› ?_) | exact nl | fail
    exact ⟨i + 1, by omega, by omega, Weak.cu⟩
  · repeat' first | (with_reducible first | refine nx' ?_ | refine n0 ?_ | refine Wp.drawR (by decide +kernel) ?_ | refine Wp.drawSR [6, 11, 12, 13, 14] [false, false, false, false, false, false, true, false, false, false, false, true, true, true, true] (.op 6 [0,7,8,9,10] (.op 11 [0] (.op 12 [0] (.op 13 [] (.op 14 [] .done))))) (by decide +kernel) ?_ | refine n1 ?_ | refine nilB_i fun b hb => ?_ | refine nP ?_ ?_ | refine nS fun K hK => ?_ | (refine n2 ?_ ?_ <;> intro h <;> first | subst (h : _ = true) | subst (h : _ = false) | skip) | refine And.intro ?_ ?_ | refine nK ‹Imp _ _› ?_) | exact nl | fail
    obtain rfl : i = l.length := by omega
    rw [List.take_of_length_le (by simp)]
    rfl
end Go.PL
