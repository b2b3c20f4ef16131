/- A plain machine, sound for the given model, and contracts of functions over it, part 34: AH FL BO3 BO4 BO5. Nothing is assumed. -/
import Derived.Test.YtfdjgoapdkpbaaaA6
import Derived.Test.YtfdjgoapdkpbaaaAD
import Derived.Test.YtfdjgoapdkpbaaaG33
set_option linter.unusedSimpArgs false
set_option linter.unusedVariables false
set_option linter.unusedSectionVars false
/- AH -/
namespace Go.PL
open Go Go.Proofs
set_option maxRecDepth 10000
set_option maxHeartbeats 4000000
set_option linter.unusedSimpArgs false
set_option linter.unusedVariables false
def toQ (r : Rt) : Q := ⟨r.neg, (val r.num).toNat, (val r.den).toNat⟩
theorem okRat_toQ {r : Rt} (h : okRat r = true) : r.num = digs (toQ r).n ∧ r.den = digs (toQ r).d ∧ lenQ 40 (toQ r) := by
  unfold okRat at h
  simp only [Bool.and_eq_true, Bool.not_eq_true'] at h
  obtain ⟨m, h1, h2⟩ := okNat_digs (a := r.num) (by simp_all)
  obtain ⟨n, h3, h4⟩ := okNat_digs (a := r.den) (by simp_all)
  have e1 : (toQ r).n = m := by unfold toQ; simp only; rw [h1, val_digs]; rfl
  have e2 : (toQ r).d = n := by unfold toQ; simp only; rw [h3, val_digs]; rfl
  refine ⟨by rw [e1]; exact h1, by rw [e2]; exact h3, by rw [e1]; exact h2, by rw [e2]; exact h4, ?_⟩
  rw [e2]
  rcases Nat.eq_zero_or_pos n with e | e
  · exfalso
    rw [e, digs_zero] at h3
    simp_all
  · exact e
def dropAt (l : List Rc) (t : Nat) : Prop := cmpQ (toQ (l.getD (t + 1) rc0).f) (toQ (l.getD t rc0).f) < 0
instance (l : List Rc) (t : Nat) : Decidable (dropAt l t) := by unfold dropAt; infer_instance
def dropsR (l : List Rc) : Bool := decide (∀ t, t < l.length - 1 → dropAt l t)
theorem lenQ.mono {L M : Nat} {q : Q} (h : lenQ L q) (hM : L ≤ M) : lenQ M q := ⟨Nat.le_trans h.1 hM, Nat.le_trans h.2.1 hM, h.2.2⟩
theorem dropsR_not {l : List Rc} {i : Nat} (hi : i + 1 < l.length) (h : ¬dropAt l i) : dropsR l = false := by
  unfold dropsR; rw [decide_eq_false_iff_not]; exact fun hh => h (hh i (by omega))
theorem dropsR_all {l : List Rc} (h : ∀ t, t < l.length - 1 → dropAt l t) : dropsR l = true := by
  unfold dropsR; rw [decide_eq_true_eq]; exact h
theorem okRp_rats {a : Int} {l : List Rc} (h : okRp ⟨a, l⟩ = true) : ∀ t, t < l.length → okRat (l.getD t rc0).f = true := by
  intro t ht
  unfold okRp at h
  rw [decide_eq_true_eq] at h
  have h1 := (h.2.2.2 t ht).1
  unfold okRc at h1
  simp only [Bool.and_eq_true] at h1
  exact h1.2
instance (a : Int) (l : List Rc) : Con CC 18 [.d (.agg [.i a, .sl (l.map encRc)])] (bRcs l) (.d (.i (if okRp ⟨a, l⟩ then 0 else 1))) := by
  constructor; intro hb
  refine Den.pureI Try.func18 rfl 1 [.tmp 2] (by kernel_rfl) rfl rfl (by simp only [initE_nil, initE_cons, Nat.reduceAdd]; exact rfl) ?_
  repeat' first | (with_reducible first | refine nx' ?_ | refine n0 ?_ | refine rD ?_ | refine n1 ?_ | refine nilB_i fun b hb => ?_ | refine nP ?_ ?_ | refine nS fun K hK => ?_ | (refine n2 ?_ ?_ <;> intro h <;> first | subst (h : _ = true) | subst (h : _ = false) | skip) | refine And.intro ?_ ?_ | refine nK ‹Imp _ _› ?_) | exact nl | fail
end Go.PL

/- FL -/
namespace Go.PL
open Go Go.Proofs
set_option maxRecDepth 10000
set_option maxHeartbeats 4000000
set_option linter.unusedSimpArgs false
set_option linter.unusedVariables false
def firstI : List Int → Int
  | [] => 0
  | c :: r => if c = 0 then firstI r else c
theorem firstI_at : ∀ (l : List Int) (i : Nat), i < l.length → (∀ t, t < i → l.getD t 0 = 0) → l.getD i 0 ≠ 0 → firstI l = l.getD i 0
  | [], i, h, _, _ => by simp at h
  | c :: r, 0, _, _, h => by simp only [firstI]; rw [if_neg (by simpa using h)]; rfl
  | c :: r, i + 1, h, hn, hp => by
    have h0 : c = 0 := by simpa using hn 0 (by omega)
    simp only [firstI]
    rw [if_pos h0, firstI_at r i (by simpa using h) (fun t ht => by simpa using hn (t + 1) (by omega)) (by simpa using hp)]; simp
theorem firstI_none : ∀ (l : List Int), (∀ t, t < l.length → l.getD t 0 = 0) → firstI l = 0
  | [], _ => rfl
  | c :: r, h => by
    have h0 : c = 0 := by simpa using h 0 (by simp)
    simp only [firstI]
    rw [if_pos h0, firstI_none r fun t ht => by simpa using h (t + 1) (by simpa using ht)]
instance (l : List Int) : Con CC 17 [.d (.sl (l.map .i))] (l.length ≤ 1048576) (.d (.i (firstI l))) := by
  constructor; intro hl
  refine Den.pureI Try.func17 rfl 1 [.tmp 2] (by kernel_rfl) rfl rfl (by simp only [initE_nil, initE_cons, Nat.reduceAdd]; exact rfl) ?_
  repeat' first | (with_reducible first | refine nx' ?_ | refine n0 ?_ | refine rD ?_ | refine n1 ?_ | refine nilB_i fun b hb => ?_ | refine nP ?_ ?_ | refine nS fun K hK => ?_ | (refine n2 ?_ ?_ <;> intro h <;> first | subst (h : _ = true) | subst (h : _ = false) | skip) | refine And.intro ?_ ?_ | refine nK ‹Imp _ _› ?_) | exact nl | fail
  refine Wp.loopR (fun i : Nat => ⟨[(5, .d (.sl (l.map .i))), (6, .d (.i l.length)), (7, .d (.i i))], []⟩) (fun i => l.length - i) (fun i => i ≤ l.length ∧ ∀ t, t < i → l.getD t 0 = 0) 0 Weak.lo ⟨by simp, by intro t ht; omega⟩ ?_
  rintro i ⟨hi, hd⟩ K hK
  repeat' first | (with_reducible first | refine nx' ?_ | refine n0 ?_ | refine rD ?_ | refine n1 ?_ | refine nilB_i fun b hb => ?_ | refine nP ?_ ?_ | refine nS fun K hK => ?_ | (refine n2 ?_ ?_ <;> intro h <;> first | subst (h : _ = true) | subst (h : _ = false) | skip) | refine And.intro ?_ ?_ | refine nK ‹Imp _ _› ?_) | exact nl | fail
  · rw [firstI_at l i (by omega) hd h]
  · exact ⟨i + 1, by omega, ⟨by omega, fun t ht => by rcases (show t < i ∨ t = i by omega) with e | e; exact hd t e; rw [e]; exact h⟩, Weak.lo⟩
  · rw [firstI_none l fun t ht => hd t (by omega)]
def longI (most : Int) (l : List Int) : Int := if l.any fun n => decide (most < n) then 2 else 0
theorem longI_at {most : Int} {l : List Int} {i : Nat} (h : i < l.length) (hp : most < l.getD i 0) : longI most l = 2 := by
  unfold longI; rw [if_pos]; rw [List.any_eq_true]; exact ⟨_, getD_mem 0 h, by simpa using hp⟩
theorem longI_none {most : Int} {l : List Int} (h : ∀ t, t < l.length → l.getD t 0 ≤ most) : longI most l = 0 := by
  unfold longI; rw [if_neg]; rw [List.any_eq_true]; rintro ⟨x, hx, hp⟩
  obtain ⟨i, hi, rfl⟩ := List.getElem_of_mem hx
  have := h i hi
  simp only [List.getD, List.getElem?_eq_getElem hi, Option.getD_some] at this
  simp only [decide_eq_true_eq] at hp
  omega
end Go.PL

/- BO3 -/
namespace Go.PL
open Go Go.Proofs
set_option maxRecDepth 10000
set_option maxHeartbeats 4000000
set_option linter.unusedSimpArgs false
set_option linter.unusedVariables false
theorem okRat_len {r : Rt} (h : okRat r = true) : r.num.length ≤ 40 ∧ r.den.length ≤ 40 ∧ r.den.length ≠ 0 := by
  unfold okRat okNat at h
  simp only [Bool.and_eq_true, decide_eq_true_eq] at h
  obtain ⟨⟨⟨⟨h1, h2⟩, h3⟩, h4⟩, h5⟩ := h
  exact ⟨h1.1, h2.1, by simpa using h3⟩
theorem okRc_parts {r : Rc} (h : okRc r = true) : (1 ≤ r.x.length ∧ r.x.length ≤ 4) ∧ (∀ q ∈ r.x, okRat q = true) ∧ okRat r.f = true := by
  unfold okRc at h
  simp only [Bool.and_eq_true] at h
  obtain ⟨⟨-, hv⟩, hf⟩ := h
  unfold okVec at hv
  rw [decide_eq_true_eq] at hv
  refine ⟨⟨hv.1, hv.2.1⟩, fun r hr => ?_, hf⟩
  obtain ⟨i, hi, rfl⟩ := List.getElem_of_mem hr
  have := hv.2.2 i hi
  simpa only [List.getD, List.getElem?_eq_getElem hi, Option.getD_some] using this
instance (l : List Rt) (i : Nat) : Con CC 38 [.d (.i i), .d (.ptr [.sl (l.map encR)])] (i < l.length) (.d (encR (l.getD i r0))) := by
  constructor; intro hi
  refine Den.pureI Try.func38 rfl 2 [.cell 3 29] (by kernel_rfl) rfl rfl (by simp only [initE_nil, initE_cons, Nat.reduceAdd]; exact rfl) ?_
  repeat' first | (with_reducible first | refine nx' ?_ | refine n0 ?_ | refine rD ?_ | refine n1 ?_ | refine nilB_i fun b hb => ?_ | refine nP ?_ ?_ | refine nS fun K hK => ?_ | (refine n2 ?_ ?_ <;> intro h <;> first | subst (h : _ = true) | subst (h : _ = false) | skip) | refine And.intro ?_ ?_ | refine nK ‹Imp _ _› ?_) | exact nl | fail
theorem cloneVec_t (l : List Rt) (hb : bV l) (hn : l.length ≤ 1000) (h0 : ∀ r ∈ l, r.den.length ≠ 0) : CC 20 [.d (.sl (l.map encR))] [] (.msl 0 0 l.length) [.tree 3 ((l.map encR).map .d)] := by
  have h := vecOf_t 38 [.ptr [.sl (l.map encR)]] l.length (fun i => l.getD i r0) hn (fun i hi => Con.ok (C := CC) (vs := [.d (.i i), .d (.ptr [.sl (l.map encR)])]) hi) (fun i hi => ⟨hb.2 _ (getD_mem r0 hi), h0 _ (getD_mem r0 hi)⟩)
  rw [alongR_get] at h
  refine Den.newG (vs := [.msl 0 0 l.length]) Try.func20 rfl 1 0 [.tmp 2] (by kernel_rfl) rfl rfl (by simp only [initE_nil, initE_cons, Nat.reduceAdd]; exact rfl) rfl rfl (by simp) rfl (by first | rfl | simp only [List.all_cons, List.all_nil, tree_bnd, arr_bnd, Bool.and_true]) ?_
  repeat' first | (with_reducible first | refine nx' ?_ | refine n0 ?_ | refine rD ?_ | refine n1 ?_ | refine nilB_i fun b hb => ?_ | refine nPt (h) ?_ | refine nP ?_ ?_ | refine nS fun K hK => ?_ | (refine n2 ?_ ?_ <;> intro h <;> first | subst (h : _ = true) | subst (h : _ = false) | skip) | refine And.intro ?_ ?_ | refine nK ‹Imp _ _› ?_) | exact nl | fail
  exact finG_of [(2, .msl 0 0 l.length)] [.var [.d (.sl (l.map encR))] false] (Weak.perm [1, 0] rfl rfl (by simp -implicitDefEqProofs (disch := omega) only [go_sem]; exact Weak.lo)) rfl (by simp only [List.map_cons, List.map_nil, List.cons_append, List.nil_append]; rw [asD_tree rfl])
instance (b : Bool) (x y : List Int) : Con CC 34 [.d (.agg [.b b, encD x, encD y])] (x.length ≤ 1048576 ∧ y.length ≤ 1048576) (.d (.agg [.b b, encD x, encD y])) := by
  constructor; intro ⟨h1, h2⟩
  refine Den.pureI Try.func34 rfl 1 [.cell 2 29] (by kernel_rfl) rfl rfl (by simp only [initE_nil, initE_cons, Nat.reduceAdd]; exact rfl) ?_
  repeat' first | (with_reducible first | refine nx' ?_ | refine n0 ?_ | refine Wp.drawR (by decide +kernel) ?_ | refine n1 ?_ | refine nilB_i fun b hb => ?_ | refine nP ?_ ?_ | refine nS fun K hK => ?_ | (refine n2 ?_ ?_ <;> intro h <;> first | subst (h : _ = true) | subst (h : _ = false) | skip) | refine And.intro ?_ ?_ | refine nK ‹Imp _ _› ?_) | exact nl | fail
  refine Wp.drawSR [2, 5, 6, 9, 10, 11] [false, false, true, false, false, true, true, false, false, true, true, true] (.both (.op 2 [0,1,3,4,7,8] (.both (.op 5 [0,1,7,8] (.op 6 [0,1,7,8] (.op 9 [0,1] (.op 10 [] (.op 11 [] .done))))) (.op 6 [0,1,3,4,7,8] (.op 5 [0,1,7,8] (.op 9 [0,1] (.op 10 [] (.op 11 [] .done))))))) (.op 6 [0,1,3,4,7,8] (.op 2 [0,1,3,4,7,8] (.op 5 [0,1,7,8] (.op 9 [0,1] (.op 10 [] (.op 11 [] .done))))))) (by decide +kernel) ?_
  repeat' first | (with_reducible first | refine nx' ?_ | refine n0 ?_ | refine Wp.drawR (by decide +kernel) ?_ | refine n1 ?_ | refine nilB_i fun b hb => ?_ | refine nP ?_ ?_ | refine nS fun K hK => ?_ | (refine n2 ?_ ?_ <;> intro h <;> first | subst (h : _ = true) | subst (h : _ = false) | skip) | refine And.intro ?_ ?_ | refine nK ‹Imp _ _› ?_) | exact nl | fail
instance (b : Bool) (x y : List Int) : Con CC 47 [.d (.agg [.b b, encD x, encD y])] (x.length ≤ 40 ∧ y.length ≤ 40) (.d (.b true)) := by
  constructor; intro ⟨h1, h2⟩
  refine Den.pureI Try.func47 rfl 1 [.tmp 2] (by kernel_rfl) rfl rfl (by simp only [initE_nil, initE_cons, Nat.reduceAdd]; exact rfl) ?_
  repeat' first | (with_reducible first | refine nx' ?_ | refine n0 ?_ | refine rD ?_ | refine n1 ?_ | refine nilB_i fun b hb => ?_ | refine nP ?_ ?_ | refine nS fun K hK => ?_ | (refine n2 ?_ ?_ <;> intro h <;> first | subst (h : _ = true) | subst (h : _ = false) | skip) | refine And.intro ?_ ?_ | refine nK ‹Imp _ _› ?_) | exact nl | fail
  all_goals (congr 3; simp; omega)
theorem take_succR {l : List Rt} {i : Nat} (h : i < l.length) : l.take i ++ [l.getD i r0] = l.take (i + 1) := (take_succD r0 h).symm
theorem take_succRc {l : List Rc} {i : Nat} (h : i < l.length) : l.take i ++ [l.getD i rc0] = l.take (i + 1) := (take_succD rc0 h).symm
instance (l : List Rt) : Con CC 33 [.d (.sl (l.map encR))] (l.length ≤ 1000 ∧ ∀ r ∈ l, r.num.length ≤ 40 ∧ r.den.length ≤ 40) (.tup [.d (.sl (l.map encR)), .d (.i 0)]) := by
  constructor; intro ⟨hn, hl⟩
  refine Den.pureI Try.func33 rfl 1 [.tmp 2, .tmp 3] (by kernel_rfl) rfl rfl (by simp only [initE_nil, initE_cons, Nat.reduceAdd]; exact rfl) ?_
  repeat' first | (with_reducible first | refine nx' ?_ | refine n0 ?_ | refine rD ?_ | refine n1 ?_ | refine nilB_i fun b hb => ?_ | refine nP ?_ ?_ | refine nS fun K hK => ?_ | (refine n2 ?_ ?_ <;> intro h <;> first | subst (h : _ = true) | subst (h : _ = false) | skip) | refine And.intro ?_ ?_ | refine nK ‹Imp _ _› ?_) | exact nl | fail
  refine Wp.loopR (fun i : Nat => ⟨[(0, .d (.sl (l.map encR))), (4, .msl 0 0 i), (5, .d (.i i))], [.arr 3 ((l.take i).map encR) false]⟩) (fun i => l.length - i) (fun i => i ≤ l.length) 0 Weak.lo (by simp) ?_
  rintro i hi K hK
  by_cases hil : i < l.length
  · obtain ⟨h1, h2⟩ := hl _ (getD_mem r0 hil)
    have e := take_succR hil
    have hlen : (l.take i).length = i := by rw [List.length_take]; omega
    have hlen2 : (l.take (i + 1)).length = i + 1 := by rw [List.length_take]; omega
    have k1 : (l.getD i ⟨false, [], []⟩).num.length ≤ 1048576 := Nat.le_trans h1 (by omega)
    have k2 : (l.getD i ⟨false, [], []⟩).den.length ≤ 1048576 := Nat.le_trans h2 (by omega)
    repeat' first | (with_reducible first | refine nx' ?_ (by simp -implicitDefEqProofs (disch := omega) only [go_sem, hlen, e, hlen2]; exact rfl) | refine n0 ?_ | refine rD ?_ | refine n1 ?_ | refine nilB_i fun b hb => ?_ | refine nP ?_ ?_ | refine nS fun K hK => ?_ | (refine n2 ?_ ?_ <;> intro h <;> first | subst (h : _ = true) | subst (h : _ = false) | (simp only [FX, LX, hlen, e, hlen2] at h) | skip) | refine And.intro ?_ ?_ | refine nK ‹Imp _ _› ?_) | exact nl | fail
    exact ⟨i + 1, by omega, by omega, Weak.cu⟩
  · repeat' first | (with_reducible first | refine nx' ?_ | refine n0 ?_ | refine rD ?_ | refine n1 ?_ | refine nilB_i fun b hb => ?_ | refine nP ?_ ?_ | refine nS fun K hK => ?_ | (refine n2 ?_ ?_ <;> intro h <;> first | subst (h : _ = true) | subst (h : _ = false) | skip) | refine And.intro ?_ ?_ | refine nK ‹Imp _ _› ?_) | exact nl | fail
    rw [show i = l.length by omega, List.take_length, List.take_length]
instance (a : Int) (l : List Rc) : Con CC 15 [.d (.agg [.i a, .sl (l.map encRc)])] (l.length ≤ 1000 ∧ ∀ r ∈ l, okRc r = true) (.d (.agg [.i a, .sl (l.map encRc)])) := by
  constructor; intro ⟨hn, hl⟩
  refine Den.pureI Try.func15 rfl 1 [.cell 2 36] (by kernel_rfl) rfl rfl (by simp only [initE_nil, initE_cons, Nat.reduceAdd]; exact rfl) ?_
  repeat' first | (with_reducible first | refine nx' ?_ | refine n0 ?_ | refine Wp.drawR (by decide +kernel) ?_ | refine Wp.drawSR [8, 9, 10, 11, 12] [false, false, false, false, false, false, false, false, true, true, true, true, true] (.op 8 [0,1,2,3,4,5] (.op 9 [0] (.op 10 [0] (.op 11 [] (.op 12 [] .done))))) (by decide +kernel) ?_ | refine n1 ?_ | refine nilB_i fun b hb => ?_ | refine nP ?_ ?_ | refine nS fun K hK => ?_ | (refine n2 ?_ ?_ <;> intro h <;> first | subst (h : _ = true) | subst (h : _ = false) | skip) | refine And.intro ?_ ?_ | refine nK ‹Imp _ _› ?_) | exact nl | fail
  refine Wp.loopR (fun i : Nat => ⟨[(1, .ref 0 0 0), (2, .ref 1 0 0), (3, .msl 2 0 i), (4, .d (.i i))], [.var [.d (.i a), .d (.sl (l.map encRc))] false, .var [.d (.val (.int .i64 0)), .d (.val (.slice none 0 0))] false, .arr 6 ((l.take i).map encRc) false]⟩) (fun i => l.length - i) (fun i => i ≤ l.length) 0 Weak.lo (by simp) ?_
  rintro i hi K hK
  by_cases hil : i < l.length
  · obtain ⟨⟨h1, h2⟩, h3, h4⟩ := okRc_parts (hl _ (getD_mem rc0 hil))
    have e := take_succRc hil
    have hlen : (l.take i).length = i := by rw [List.length_take]; omega
    have h5 : ∀ r ∈ (l.getD i rc0).x, r.num.length ≤ 40 ∧ r.den.length ≤ 40 := fun r hr => ⟨(okRat_len (h3 r hr)).1, (okRat_len (h3 r hr)).2.1⟩
    have h6 := okRat_len h4
    have hlen2 : (l.take (i + 1)).length = i + 1 := by rw [List.length_take]; omega
    have k1 : (l.getD i rc0).f.num.length ≤ 1048576 := Nat.le_trans h6.1 (by omega)
    have k2 : (l.getD i rc0).f.den.length ≤ 1048576 := Nat.le_trans h6.2.1 (by omega)
    repeat' first | (with_reducible first | refine nx' ?_ (by simp -implicitDefEqProofs (disch := omega) only [go_sem, hlen, e, hlen2]; exact rfl) | refine n0 ?_ | refine Wp.drawR (by decide +kernel) ?_ | refine Wp.drawSR [8, 9, 10, 11, 12] [false, false, false, false, false, false, false, false, true, true, true, true, true] (.op 8 [0,1,2,3,4,5] (.op 9 [0] (.op 10 [0] (.op 11 [] (.op 12 [] .done))))) (by decide +kernel) ?_ | refine n1 ?_ | refine nilB_i fun b hb => ?_ | refine nP ?_ ?_ | refine nS fun K hK => ?_ | (refine n2 ?_ ?_ <;> intro h <;> first | subst (h : _ = true) | subst (h : _ = false) | (simp only [FX, LX, hlen, e, hlen2] at h) | skip) | refine And.intro ?_ ?_ | refine nK ‹Imp _ _› ?_) | exact nl | fail
    exact ⟨i + 1, by omega, by omega, Weak.cu⟩
  · repeat' first | (with_reducible first | refine nx' ?_ | refine n0 ?_ | refine Wp.drawR (by decide +kernel) ?_ | refine Wp.drawSR [8, 9, 10, 11, 12] [false, false, false, false, false, false, false, false, true, true, true, true, true] (.op 8 [0,1,2,3,4,5] (.op 9 [0] (.op 10 [0] (.op 11 [] (.op 12 [] .done))))) (by decide +kernel) ?_ | refine n1 ?_ | refine nilB_i fun b hb => ?_ | refine nP ?_ ?_ | refine nS fun K hK => ?_ | (refine n2 ?_ ?_ <;> intro h <;> first | subst (h : _ = true) | subst (h : _ = false) | skip) | refine And.intro ?_ ?_ | refine nK ‹Imp _ _› ?_) | exact nl | fail
    rw [show i = l.length by omega, List.take_length, List.take_length]
end Go.PL

/- BO4 -/
namespace Go.PL
open Go Go.Proofs
set_option maxRecDepth 10000
set_option maxHeartbeats 4000000
set_option linter.unusedSimpArgs false
set_option linter.unusedVariables false
theorem vbR_tup {n : Nat} {cs : List V} : V.bndR n (.tup cs) = cs.all (V.bnd n) := rfl
theorem vb_agg {n : Nat} {cs : List V} : V.bnd n (.agg cs) = cs.all (V.bnd1 n) := rfl
theorem vb_d {n : Nat} {x : D} : V.bnd n (.d x) = true := rfl
theorem vb1_d {n : Nat} {x : D} : V.bnd1 n (.d x) = true := rfl
theorem vb1_msl {n o i j : Nat} : V.bnd1 n (.msl o i j) = Nat.blt o n := rfl
/-- The last record of a report. -/
def bestR (a : Int) (l : List Rc) : Rc := if okRp ⟨a, l⟩ = true ∧ 0 < l.length then l.getD (l.length - 1) rc0 else rc0
def bestC (a : Int) (l : List Rc) : Int := if okRp ⟨a, l⟩ = true then (if 0 < l.length then 0 else 5) else 1
theorem okRp_recs {a : Int} {l : List Rc} (h : okRp ⟨a, l⟩ = true) : l.length ≤ 7 ∧ ∀ r ∈ l, okRc r = true := by
  unfold okRp at h
  rw [decide_eq_true_eq] at h
  refine ⟨h.2.2.1, fun x hx => ?_⟩
  obtain ⟨i, hi, rfl⟩ := List.getElem_of_mem hx
  have := (h.2.2.2 i hi).1
  simpa only [List.getD, List.getElem?_eq_getElem hi, Option.getD_some] using this
theorem best_f {a : Int} {l : List Rc} (h : okRp ⟨a, l⟩ = false) : bestR a l = rc0 ∧ bestC a l = 1 := by
  unfold bestR bestC; rw [h]; exact ⟨if_neg (by simp), rfl⟩
theorem best_0 {a : Int} {l : List Rc} (h : okRp ⟨a, l⟩ = true) (h0 : l.length = 0) : bestR a l = rc0 ∧ bestC a l = 5 := by
  unfold bestR bestC; rw [h, h0]; exact ⟨if_neg (by simp), rfl⟩
theorem best_1 {a : Int} {l : List Rc} (h : okRp ⟨a, l⟩ = true) (h0 : 0 < l.length) : bestR a l = l.getD (l.length - 1) rc0 ∧ bestC a l = 0 := by
  unfold bestR bestC; rw [if_pos ⟨h, h0⟩, if_pos h, if_pos h0]; exact ⟨rfl, rfl⟩
theorem rc0_enc : encRc rc0 = .agg [.i 0, .i 0, .sl [], .b false, .sl [], .sl []] := rfl
instance (a : Int) (l : List Rc) : Con CC 5 [.d (.agg [.i a, .sl (l.map encRc)])] (bRcs l) (.tup [.d (encRc (bestR a l)), .d (.i (bestC a l))]) := by
  constructor; intro hb
  cases ho : okRp ⟨a, l⟩ with
  | false =>
    rw [(best_f ho).1, (best_f ho).2]
    refine Den.pureI Try.func5 rfl 1 [.cell 2 31, .tmp 3] (by kernel_rfl) rfl rfl (by simp only [initE_nil, initE_cons, Nat.reduceAdd]; exact rfl) ?_
    repeat' first | (with_reducible first | refine nx' ?_ (by simp -implicitDefEqProofs (disch := omega) only [go_sem, ho]; exact rfl) | refine n0 ?_ | refine Wp.drawR (by decide +kernel) ?_ | refine Wp.drawSR [1, 2, 7, 8, 9, 10] [false, true, true, false, false, false, false, true, true, true, true] (.op 1 [3,4,5,6] (.op 2 [3,4,5,6] (.op 7 [] (.op 8 [] (.op 9 [] (.op 10 [] .done)))))) (by decide +kernel) ?_ | refine n1 ?_ | refine nilB_i fun b hb => ?_ | refine nP ?_ ?_ | refine nS fun K hK => ?_ | (refine n2 ?_ ?_ <;> intro h <;> first | subst (h : _ = true) | subst (h : _ = false) | (simp only [FX, LX, ho] at h) | skip) | refine And.intro ?_ ?_ | refine nK ‹Imp _ _› ?_) | exact nl | fail
    rfl
  | true =>
    obtain ⟨h7, hk⟩ := okRp_recs ho
    by_cases h0 : 0 < l.length
    · rw [(best_1 ho h0).1, (best_1 ho h0).2]
      have e : ((l.length : Int) - 1).toNat = l.length - 1 := by omega
      refine Den.pureI Try.func5 rfl 1 [.cell 2 31, .tmp 3] (by kernel_rfl) rfl rfl (by simp only [initE_nil, initE_cons, Nat.reduceAdd]; exact rfl) ?_
      repeat' first | (with_reducible first | refine nx' ?_ (by simp -implicitDefEqProofs (disch := omega) only [go_sem, ho, e]; exact rfl) | refine n0 ?_ | refine Wp.drawR (by decide +kernel) ?_ | refine Wp.drawSR [1, 2, 7, 8, 9, 10] [false, true, true, false, false, false, false, true, true, true, true] (.op 1 [3,4,5,6] (.op 2 [3,4,5,6] (.op 7 [] (.op 8 [] (.op 9 [] (.op 10 [] .done)))))) (by decide +kernel) ?_ | refine n1 ?_ | refine nilB_i fun b hb => ?_ | refine nP ?_ ?_ | refine nS fun K hK => ?_ | (refine n2 ?_ ?_ <;> intro h <;> first | subst (h : _ = true) | subst (h : _ = false) | (simp only [FX, LX, ho, e] at h) | skip) | refine And.intro ?_ ?_ | refine nK ‹Imp _ _› ?_) | exact nl | fail
    · rw [(best_0 ho (by omega)).1, (best_0 ho (by omega)).2]
      refine Den.pureI Try.func5 rfl 1 [.cell 2 31, .tmp 3] (by kernel_rfl) rfl rfl (by simp only [initE_nil, initE_cons, Nat.reduceAdd]; exact rfl) ?_
      repeat' first | (with_reducible first | refine nx' ?_ (by simp -implicitDefEqProofs (disch := omega) only [go_sem, ho]; exact rfl) | refine n0 ?_ | refine Wp.drawR (by decide +kernel) ?_ | refine Wp.drawSR [1, 2, 7, 8, 9, 10] [false, true, true, false, false, false, false, true, true, true, true] (.op 1 [3,4,5,6] (.op 2 [3,4,5,6] (.op 7 [] (.op 8 [] (.op 9 [] (.op 10 [] .done)))))) (by decide +kernel) ?_ | refine n1 ?_ | refine nilB_i fun b hb => ?_ | refine nP ?_ ?_ | refine nS fun K hK => ?_ | (refine n2 ?_ ?_ <;> intro h <;> first | subst (h : _ = true) | subst (h : _ = false) | (simp only [FX, LX, ho] at h) | skip) | refine And.intro ?_ ?_ | refine nK ‹Imp _ _› ?_) | exact nl | fail
      rfl
theorem first2_c (a b : Int) : CC 17 [.d (.sl [.i a, .i b])] [] (.d (.i (firstI [a, b]))) [] := Con.ok (C := CC) (n := 17) (vs := [.d (.sl ([a, b].map .i))]) (by simp)
theorem best_no (a : Int) (l : List Rc) (hb : bRcs l) (h : ¬ (okRp ⟨a, l⟩ = true ∧ 0 < l.length)) : CC 7 [.d (.agg [.i a, .sl (l.map encRc)])] [] (.tup [.d (encRc rc0), .d (.i (bestC a l))]) [] := by
  cases ho : okRp ⟨a, l⟩ with
  | false =>
    rw [(best_f ho).2]
    have hf : ∀ c, CC 17 [.d (.sl [.i 1, .i c])] [] (.d (.i 1)) [] := fun c => first2_c 1 c
    refine Den.pureI Try.func7 rfl 1 [.cell 2 31, .tmp 3] (by kernel_rfl) rfl rfl (by simp only [initE_nil, initE_cons, Nat.reduceAdd]; exact rfl) ?_
    repeat' first | (with_reducible first | refine nx' ?_ (by simp -implicitDefEqProofs (disch := omega) only [go_sem, ho]; exact rfl) | refine n0 ?_ | refine Wp.drawR (by decide +kernel) ?_ | refine Wp.drawSR [1, 6, 7, 8, 9] [false, true, false, false, false, false, true, true, true, true] (.op 1 [2,3,4,5] (.op 6 [] (.op 7 [] (.op 8 [] (.op 9 [] .done))))) (by decide +kernel) ?_ | refine Wp.drawSR [6, 9, 10, 11, 12] [false, false, false, false, false, false, true, false, false, true, true, true, true] (.op 6 [0,1,2,3,7,8] (.op 9 [0,1,2,3] (.op 10 [] (.op 11 [] (.op 12 [] .done))))) (by decide +kernel) ?_ | refine n1 ?_ | refine nilB_i fun b hb => ?_ | refine nPc (hf _) ?_ | refine nP ?_ ?_ | refine nS fun K hK => ?_ | (refine n2 ?_ ?_ <;> intro h <;> first | subst (h : _ = true) | subst (h : _ = false) | (simp only [FX, LX, ho] at h) | skip) | refine And.intro ?_ ?_ | refine nK ‹Imp _ _› ?_) | exact nl | fail
    rfl
  | true =>
    have h0 : l.length = 0 := by
      have q : ¬ 0 < l.length := fun q => h ⟨ho, q⟩
      omega
    rw [(best_0 ho h0).2]
    have hf : CC 17 [.d (.sl [.i 0, .i 5])] [] (.d (.i 5)) [] := first2_c 0 5
    have e : decide ((0 : Int) < (l.length : Int)) = false := by rw [h0]; rfl
    refine Den.pureI Try.func7 rfl 1 [.cell 2 31, .tmp 3] (by kernel_rfl) rfl rfl (by simp only [initE_nil, initE_cons, Nat.reduceAdd]; exact rfl) ?_
    repeat' first | (with_reducible first | refine nx' ?_ (by simp -implicitDefEqProofs (disch := omega) only [go_sem, ho, e]; exact rfl) | refine n0 ?_ | refine Wp.drawR (by decide +kernel) ?_ | refine Wp.drawSR [1, 6, 7, 8, 9] [false, true, false, false, false, false, true, true, true, true] (.op 1 [2,3,4,5] (.op 6 [] (.op 7 [] (.op 8 [] (.op 9 [] .done))))) (by decide +kernel) ?_ | refine Wp.drawSR [6, 9, 10, 11, 12] [false, false, false, false, false, false, true, false, false, true, true, true, true] (.op 6 [0,1,2,3,7,8] (.op 9 [0,1,2,3] (.op 10 [] (.op 11 [] (.op 12 [] .done))))) (by decide +kernel) ?_ | refine n1 ?_ | refine nilB_i fun b hb => ?_ | refine nPc (hf) ?_ | refine nP ?_ ?_ | refine nS fun K hK => ?_ | (refine n2 ?_ ?_ <;> intro h <;> first | subst (h : _ = true) | subst (h : _ = false) | (simp only [FX, LX, ho, e] at h) | skip) | refine And.intro ?_ ?_ | refine nK ‹Imp _ _› ?_) | exact nl | fail
    rfl
theorem best_t (a : Int) (l : List Rc) (hb : bRcs l) (ho : okRp ⟨a, l⟩ = true) (h0 : 0 < l.length) (r : Rc) (hr : l.getD (l.length - 1) rc0 = r) : CC 7 [.d (.agg [.i a, .sl (l.map encRc)])] []
    (.tup [.agg [.d (.i r.iter), .d (.i r.count), .msl 0 0 r.x.length, .d (.b r.f.neg), uV 1 r.f.num.length, .msl 2 0 r.f.den.length], .d (.i 0)]) [.tree 3 ((r.x.map encR).map .d), uA 1 (r.f.num.map .i), .arr 1 (r.f.den.map .i) false] := by
  obtain ⟨h7, hk⟩ := okRp_recs ho
  have hrm : r ∈ l := by rw [← hr]; exact getD_mem rc0 (by omega)
  obtain ⟨⟨k1, k2⟩, k3, k4⟩ := okRc_parts (hk r hrm)
  obtain ⟨b1, b2⟩ := hb.2 r hrm
  have k5 := okRat_len k4
  have c1 := cloneVec_t r.x b1 (by omega) (fun q hq => (okRat_len (k3 q hq)).2.2)
  have c2 := rclone_u r.f b2 k5.2.2
  obtain ⟨it, ct, x, g, u, v⟩ := r
  simp only at *
  have hf : CC 17 [.d (.sl [.i 0, .i 0])] [] (.d (.i 0)) [] := first2_c 0 0
  have hb1 : V.bnd1 3 (uV 1 u.length) = true := uV_bnd (by omega)
  have e : decide ((0 : Int) < (l.length : Int)) = true := by rw [decide_eq_true_eq]; omega
  have e1 : ((l.length : Int) - 1).toNat = l.length - 1 := by omega
  refine Den.newG (vs := [.agg [.d (.i it), .d (.i ct), .msl 0 0 x.length, .d (.b g), uV 1 u.length, .msl 2 0 v.length], .d (.i 0)]) Try.func7 rfl 1 0 [.cell 2 31, .tmp 3] (by kernel_rfl) rfl rfl (by simp only [initE_nil, initE_cons, Nat.reduceAdd]; exact rfl) rfl rfl (by simp) (by simp only [vbR_tup, vb_agg, vb_d, vb1_d, vb1_msl, List.length_cons, List.length_nil, Nat.reduceAdd, hb1, List.all_cons, List.all_nil, Bool.and_true, Bool.true_and]; rfl) (by simp only [uA_bnd, tree_bnd, arr_bnd, List.all_cons, List.all_nil, Bool.and_true]) ?_
  repeat' first | (with_reducible first | refine nx' ?_ (by simp -implicitDefEqProofs (disch := omega) only [go_sem, ho, hr, e, e1]; exact rfl) | refine n0 ?_ | refine n1 ?_ | refine nilB_i fun b hb => ?_ | refine nPc (hf) ?_ | refine nPt (c1) ?_ | refine nPu (c2) ?_ | refine nP ?_ ?_ | refine nS fun K hK => ?_ | (refine n2 ?_ ?_ <;> intro h <;> first | subst (h : _ = true) | subst (h : _ = false) | (simp only [FX, LX, ho, hr, e, e1] at h) | skip) | refine And.intro ?_ ?_ | refine nK ‹Imp _ _› ?_) | exact nl | fail
  refine Wp.drawSR [1, 6, 7, 8, 9] [false, true, false, false, false, false, true, true, true, true] (.op 1 [2,3,4,5] (.op 6 [] (.op 7 [] (.op 8 [] (.op 9 [] .done))))) (by decide +kernel) ?_
  repeat' first | (with_reducible first | refine nx' ?_ (by simp -implicitDefEqProofs (disch := omega) only [go_sem, ho, hr, e, e1]; exact rfl) | refine n0 ?_ | refine n1 ?_ | refine nilB_i fun b hb => ?_ | refine nPc (hf) ?_ | refine nPt (c1) ?_ | refine nPu (c2) ?_ | refine nP ?_ ?_ | refine nS fun K hK => ?_ | (refine n2 ?_ ?_ <;> intro h <;> first | subst (h : _ = true) | subst (h : _ = false) | (simp only [FX, LX, ho, hr, e, e1] at h) | skip) | refine And.intro ?_ ?_ | refine nK ‹Imp _ _› ?_) | exact nl | fail
  refine Wp.drawSR [6, 9, 10, 11, 12] [false, false, false, false, false, false, true, false, false, true, true, true, true] (.op 6 [0,1,2,3,7,8] (.op 9 [0,1,2,3] (.op 10 [] (.op 11 [] (.op 12 [] .done))))) (by decide +kernel) ?_
  repeat' first | (with_reducible first | refine nx' ?_ (by simp -implicitDefEqProofs (disch := omega) only [go_sem, ho, hr, e, e1]; exact rfl) | refine n0 ?_ | refine Wp.drawSR [1, 6, 7, 8, 9] [false, true, false, false, false, false, true, true, true, true] (.op 1 [2,3,4,5] (.op 6 [] (.op 7 [] (.op 8 [] (.op 9 [] .done))))) (by decide +kernel) ?_ | refine Wp.drawSR [6, 9, 10, 11, 12] [false, false, false, false, false, false, true, false, false, true, true, true, true] (.op 6 [0,1,2,3,7,8] (.op 9 [0,1,2,3] (.op 10 [] (.op 11 [] (.op 12 [] .done))))) (by decide +kernel) ?_ | refine Wp.drawR (by decide +kernel) ?_ | refine n1 ?_ | refine nilB_i fun b hb => ?_ | refine nPc (hf) ?_ | refine nPt (c1) ?_ | refine nPu (c2) ?_ | refine nP ?_ ?_ | refine nS fun K hK => ?_ | (refine n2 ?_ ?_ <;> intro h <;> first | subst (h : _ = true) | subst (h : _ = false) | (simp only [FX, LX, ho, hr, e, e1] at h) | skip) | refine And.intro ?_ ?_ | refine nK ‹Imp _ _› ?_) | exact nl | fail
  exact finG_of [(2, .ref 5 0 0), (3, .d (.i 0))] [.var [.d (.i it), .d (.i ct), .d (.sl (x.map encR)), .d (.b g), .d (encD u), .d (encD v)] false, .var [.d (.i a), .d (.sl (l.map encRc))] false, .var [.d (.i it), .d (.i ct), .msl 0 0 x.length, .d (.b g), uV 1 u.length, .msl 2 0 v.length] false, .arr 1 [.val (.int .i64 0), .val (.int .i64 0)] false]
    (Weak.perm [4, 5, 6, 3, 0, 1, 2] rfl rfl (by simp -implicitDefEqProofs (disch := omega) only [go_sem]; exact Weak.lo)) rfl (by simp only [List.map_cons, List.map_nil, List.cons_append, List.nil_append]; rw [asD_recU (by simp)]; rfl)
end Go.PL

/- BO5 -/
namespace Go.PL
open Go Go.Proofs
set_option maxRecDepth 10000
set_option maxHeartbeats 4000000
set_option linter.unusedSimpArgs false
set_option linter.unusedVariables false
theorem toRep_t (a : Int) (l : List Rc) (hb : bRcs l) : CC 6 [.d (.agg [.i a, .sl (l.map encRc)])] [] (.agg [.d (.i a), .msl 0 0 l.length]) [.tree 6 ((l.map encRc).map .d)] := by
  have hn := toRecs_t l hb
  refine Den.newG (vs := [.agg [.d (.i a), .msl 0 0 l.length]]) Try.func6 rfl 1 0 [.cell 2 36] (by kernel_rfl) rfl rfl (by simp only [initE_nil, initE_cons, Nat.reduceAdd]; exact rfl) rfl rfl (by simp) rfl (by first | rfl | simp only [List.all_cons, List.all_nil, tree_bnd, arr_bnd, Bool.and_true]) ?_
  repeat' first | (with_reducible first | refine nx' ?_ | refine n0 ?_ | refine rD ?_ | refine n1 ?_ | refine nilB_i fun b hb => ?_ | refine nPt (hn) ?_ | refine nP ?_ ?_ | refine nS fun K hK => ?_ | (refine n2 ?_ ?_ <;> intro h <;> first | subst (h : _ = true) | subst (h : _ = false) | skip) | refine And.intro ?_ ?_ | refine nK ‹Imp _ _› ?_) | exact nl | fail
  exact finG_of [(2, .ref 1 0 0)] [.var [.d (.i a), .msl 0 0 l.length] false, .var [.d (.i a), .msl 0 0 l.length] false, .var [.d (.i a), .d (.sl (l.map encRc))] false]
    (Weak.perm [3, 1, 2, 0] rfl rfl (by simp -implicitDefEqProofs (disch := omega) only [go_sem]; exact Weak.lo)) rfl (by simp only [List.map_cons, List.map_nil, List.cons_append, List.nil_append]; rw [asD_rep])
theorem markRep_c (os : List Ob) (o n : Nat) (a k : Int) (l : List Rc) (ho : o < os.length) (hb : os.all (Ob.bnd os.length) = true) (hn : n = l.length) (hl : bRcs l) (hk : 0 ≤ k ∧ k + sumOf cC l ≤ 1000000000) :
    CC 10 [.agg [.d (.i a), .msl o 0 n], .d (.i k)] (os.set o (.tree 6 ((l.map encRc).map .d))) (.d (.i (k + sumOf cC l))) (os.set o (.tree 6 (((mkCs k l).map encRc).map .d))) := by
  haveI : Fr os o := ⟨ho, hb⟩
  have hm := markRecs_c (os ++ [.var [.d (.i a), .msl o 0 n] false]) o n k l (by simp; omega) (by
    rw [List.length_append, List.all_append, Bool.and_eq_true]
    refine ⟨all_mono (fun _ => Ob.bnd_mono (by omega)) hb, ?_⟩
    simp [Ob.bnd, V.bnd, V.bnd1, Nat.blt_eq]; omega) hn hl hk
  rw [List.set_append_left _ _ ho, List.set_append_left _ _ ho] at hm
  refine Den.newG (vs := [.d (.i (k + sumOf cC l))]) Try.func10 rfl 2 os.length [.tmp 4] (by kernel_rfl) rfl rfl (by simp only [initE_nil, initE_cons, Nat.reduceAdd]; exact rfl) rfl (by simp) (by simp) rfl (by rw [List.length_set]; exact all_set' hb tree_bnd) ?_
  repeat' first | (with_reducible first | refine nx' ?_ | refine n0 ?_ | refine rD ?_ | refine n1 ?_ | refine nilB_i fun b hb => ?_ | refine nPm (hm) ?_ | refine nP ?_ ?_ | refine nS fun K hK => ?_ | (refine n2 ?_ ?_ <;> intro h <;> first | subst (h : _ = true) | subst (h : _ = false) | skip) | refine And.intro ?_ ?_ | refine nK ‹Imp _ _› ?_) | exact nl | fail
  exact finG_of [(4, .d (.i (k + sumOf cC l)))] [.var [.d (.i a), .msl o 0 n] false] Weak.lo
theorem sumC_le : ∀ l : List Rc, sumOf cC l ≤ 3 * szRcs l
  | [] => by simp [sumOf]
  | r :: l => by
    have h1 := sumC_le l
    have h2 := szV_cR r.x
    simp only [szRcs, sumOf, List.length_cons, cC, szRc, h2] at *
    omega
/-- Marks into a record of which the parts stand at three places. -/
theorem markRec_u (os : List Ob) (o0 o1 o2 : Nat) (k a b : Int) (x : List Rt) (g : Bool) (u v : List Int) (h0 : o0 < os.length) (h1 : o1 < os.length) (h2 : o2 < os.length) (h01 : o0 ≠ o1) (h02 : o0 ≠ o2) (h12 : o1 ≠ o2) (hb : os.all (Ob.bnd os.length) = true)
    (hx : bV x) (hu : u.length ≤ 1000000) (hv : v.length ≤ 1000000) (hv0 : v.length ≠ 0) (hk : 0 ≤ k ∧ k + sumOf cR x ≤ 800000000) :
    CC 11 [.agg [.d (.i a), .d (.i b), .msl o0 0 x.length, .d (.b g), uV o1 u.length, .msl o2 0 v.length], .d (.i k)] (((os.set o0 (.tree 3 ((x.map encR).map .d))).set o1 (uA 1 (u.map .i))).set o2 (.arr 1 (v.map .i) false)) (.d (.i (k + sumOf cR x + u.length + v.length)))
      (((os.set o0 (.tree 3 (((mkRs k x).map encR).map .d))).set o1 (uA 1 ((mkL (k + sumOf cR x) u.length).map .i))).set o2 (.arr 1 ((mkL (k + sumOf cR x + u.length) v.length).map .i) false)) := by
  have hL : ∀ A B C : Ob, (((os.set o0 A).set o1 B).set o2 C).length = os.length := fun A B C => by simp
  have hg : ∀ A B C X : Ob, (((os.set o0 A).set o1 B).set o2 C ++ [X])[os.length]? = some X := fun A B C X => by rw [← hL A B C]; exact List.getElem?_concat_length
  have hbb : ∀ A B C : Ob, Ob.bnd os.length A = true → Ob.bnd os.length B = true → Ob.bnd os.length C = true → (((os.set o0 A).set o1 B).set o2 C).all (Ob.bnd os.length) = true := fun A B C ha hb' hc => all_set' (all_set' (all_set' hb ha) hb') hc
  have hX : Ob.bnd (os.length + 1) (.var [.d (.i a), .d (.i b), .msl o0 0 x.length, .d (.b g), uV o1 u.length, .msl o2 0 v.length] false) = true := by
    have e1 : V.bnd (os.length + 1) (uV o1 u.length) = true := uV_bndV (by omega)
    simp only [Ob.bnd, List.all_cons, List.all_nil, Bool.and_true, e1, vb_d, Bool.true_and]
    show (Nat.blt o0 _ && Nat.blt o2 _) = true
    rw [Bool.and_eq_true, Nat.blt_eq, Nat.blt_eq]; omega
  have hv1 : (v.map D.i).length ≠ 0 := by simpa using hv0
  have m0 := markRats_c (((os.set o0 .dead).set o1 (uA 1 (u.map .i))).set o2 (.arr 1 (v.map .i) false) ++ [.var [.d (.i a), .d (.i b), .msl o0 0 x.length, .d (.b g), uV o1 u.length, .msl o2 0 v.length] false]) o0 x.length k x (by simp; omega)
    (by rw [List.length_append, List.all_append, Bool.and_eq_true, hL]
        exact ⟨all_mono (fun _ => Ob.bnd_mono (by simp)) (hbb _ _ _ rfl uA_bnd arr_bnd), by rw [List.all_cons, Bool.and_eq_true]; exact ⟨hX, rfl⟩⟩) rfl hx (by omega)
  have e0 : ∀ (A B C Y X : Ob), (((os.set o0 A).set o1 B).set o2 C ++ [X]).set o0 Y = ((os.set o0 Y).set o1 B).set o2 C ++ [X] := fun A B C Y X => by
    rw [List.set_append_left _ _ (by simpa using h0), List.set_comm _ _ h02.symm, List.set_comm _ _ h01.symm, List.set_set]
  rw [e0, e0] at m0
  have m1 := markRat_u (os.set o0 (.tree 3 (((mkRs k x).map encR).map .d)) ++ [.var [.d (.i a), .d (.i b), .msl o0 0 x.length, .d (.b g), uV o1 u.length, .msl o2 0 v.length] false]) o1 o2 (k + sumOf cR x) g u v (by simp; omega) (by simp; omega) h12
    (by rw [List.length_append, List.all_append, Bool.and_eq_true, List.length_set]
        exact ⟨all_mono (fun _ => Ob.bnd_mono (by simp)) (all_set' hb tree_bnd), by rw [List.all_cons, Bool.and_eq_true]; exact ⟨hX, rfl⟩⟩) hu hv (by omega)
  have e1 : ∀ (A B C X : Ob), ((os.set o0 A ++ [X]).set o1 B).set o2 C = ((os.set o0 A).set o1 B).set o2 C ++ [X] := fun A B C X => by
    rw [List.set_append_left _ _ (by simpa using h1), List.set_append_left _ _ (by simpa using h2)]
  rw [e1, e1, uA_pos hv1, uA_pos (show ((mkL (k + sumOf cR x + u.length) v.length).map D.i).length ≠ 0 by simpa [mkL_len] using hv0), uV_pos (q := o2) hv0] at m1
  by_cases hu0 : u.length = 0
  · obtain rfl : u = [] := List.eq_nil_of_length_eq_zero hu0
    have e2 : uV o1 ([] : List Int).length = .d (.sl (([] : List Int).map .i)) := rfl
    rw [e2] at m0 m1 ⊢
    refine Den.newG (vs := [.d (.i (k + sumOf cR x + ([] : List Int).length + v.length))]) Try.func11 rfl 2 os.length [.tmp 4] (by kernel_rfl) rfl rfl (by simp only [initE_nil, initE_cons, Nat.reduceAdd]; exact rfl) rfl (by simp) (by simp) rfl (by rw [hL]; exact hbb _ _ _ tree_bnd uA_bnd arr_bnd) ?_
    repeat' first | (with_reducible first | refine nx' ?_ (by simp -implicitDefEqProofs (disch := omega) only [go_sem, hL, hg]; exact rfl) | refine n0 ?_ | refine rD ?_ | refine n1 ?_ | refine nilB_i fun b hb => ?_ | refine nPm (m0) ?_ | refine nPm (m1) ?_ | refine nP ?_ ?_ | refine nS fun K hK => ?_ | (refine n2 ?_ ?_ <;> intro h <;> first | subst (h : _ = true) | subst (h : _ = false) | (simp only [FX, LX, hL, hg] at h) | skip) | refine And.intro ?_ ?_ | refine nK ‹Imp _ _› ?_) | exact nl | fail
    exact finG_of [(4, .d (.i (k + sumOf cR x + ([] : List Int).length + v.length)))] [.var [.d (.i a), .d (.i b), .msl o0 0 x.length, .d (.b g), .d (.sl (([] : List Int).map .i)), .msl o2 0 v.length] false] Weak.lo
  · rw [uV_pos hu0] at m0 m1 ⊢
    refine Den.newG (vs := [.d (.i (k + sumOf cR x + u.length + v.length))]) Try.func11 rfl 2 os.length [.tmp 4] (by kernel_rfl) rfl rfl (by simp only [initE_nil, initE_cons, Nat.reduceAdd]; exact rfl) rfl (by simp) (by simp) rfl (by rw [hL]; exact hbb _ _ _ tree_bnd uA_bnd arr_bnd) ?_
    repeat' first | (with_reducible first | refine nx' ?_ (by simp -implicitDefEqProofs (disch := omega) only [go_sem, hL, hg]; exact rfl) | refine n0 ?_ | refine rD ?_ | refine n1 ?_ | refine nilB_i fun b hb => ?_ | refine nPm (m0) ?_ | refine nPm (m1) ?_ | refine nP ?_ ?_ | refine nS fun K hK => ?_ | (refine n2 ?_ ?_ <;> intro h <;> first | subst (h : _ = true) | subst (h : _ = false) | (simp only [FX, LX, hL, hg] at h) | skip) | refine And.intro ?_ ?_ | refine nK ‹Imp _ _› ?_) | exact nl | fail
    exact finG_of [(4, .d (.i (k + sumOf cR x + u.length + v.length)))] [.var [.d (.i a), .d (.i b), .msl o0 0 x.length, .d (.b g), .msl o1 0 u.length, .msl o2 0 v.length] false] Weak.lo
theorem szV_small {l : List Rt} (hn : l.length ≤ 4) (h : ∀ r ∈ l, r.num.length ≤ 40 ∧ r.den.length ≤ 40) : szV l ≤ 400 := by
  have key : ∀ l : List Rt, (∀ r ∈ l, r.num.length ≤ 40 ∧ r.den.length ≤ 40) → szV l ≤ 81 * l.length := by
    intro l
    induction l with
    | nil => intro _; simp [szV, sumOf]
    | cons r l ih =>
      intro h
      have h1 := ih fun q hq => h q (by simp [hq])
      have h2 := h r (by simp)
      simp only [szV, sumOf, List.length_cons, szR] at *
      omega
  have := key l h
  omega
theorem mkRs_sum {k : Int} {l : List Rt} : sumOf cR (mkRs k l) = sumOf cR l := by
  have := mkRs_take (k := k) (l := l) (i := l.length)
  rw [List.take_length, List.take_of_length_le (by rw [mkRs_len]; exact Nat.le_refl _)] at this
  exact this
theorem mkRs_bV {k : Int} : ∀ {l : List Rt}, bV l → bV (mkRs k l) := by
  intro l h
  refine ⟨by rw [mkRs_len]; exact h.1, fun r hr => ?_⟩
  have key : ∀ (l : List Rt) (k : Int), (∀ q ∈ l, bR q) → ∀ r ∈ mkRs k l, bR r := by
    intro l
    induction l with
    | nil => intro k _ r hr; simp [mkRs] at hr
    | cons q l ih =>
      intro k h r hr
      rw [mkRs] at hr
      rcases List.mem_cons.1 hr with e | e
      · subst e
        have := h q (by simp)
        exact ⟨by simp only [mkR, mkL_len]; exact this.1, by simp only [mkR, mkL_len]; exact this.2⟩
      · exact ih _ (fun p hp => h p (by simp [hp])) r e
  exact key l k h.2 r hr
end Go.PL
