/- A plain machine, sound for the given model, and contracts of functions over it, part 35: QA QB PlSrc. Nothing is assumed. -/
import Derived.Test.YtedbifiejciocaeGreatDoorAG
set_option linter.unusedSimpArgs false
set_option linter.unusedVariables false
set_option linter.unusedSectionVars false
/- QA -/
namespace Go.PL
open Go Go.Proofs
set_option maxRecDepth 10000
set_option maxHeartbeats 4000000
set_option linter.unusedSimpArgs false
set_option linter.unusedVariables false
instance (b : Bool) (m n : Nat) : Con CC 43 [.d (.b b), .d (encD (digs m)), .d (encD (digs n))] (0 < n ∧ (digs m).length ≤ 2000 ∧ (digs n).length ≤ 2000) (.d (encQ (mkQ b m n))) := by
  constructor; intro ⟨h0, hm, hn⟩
  have hg := gcd_pos (m := m) h0
  have hgl : (digs (Nat.gcd m n)).length ≤ 2000 := Nat.le_trans (digs_len_mono (Nat.le_of_dvd h0 (Nat.gcd_dvd_right m n))) (by omega)
  have hp := digs_len_mono (Nat.div_le_self m (Nat.gcd m n))
  have hq := digs_len_mono (Nat.div_le_self n (Nat.gcd m n))
  by_cases h1 : Nat.gcd m n = 1
  · have hc : cmpN (Nat.gcd m n) 1 = 0 := by rw [h1]; rfl
    have e : mkQ b m n = ⟨b && decide (0 < m), m, n⟩ := by unfold mkQ; rw [h1, Nat.div_one, Nat.div_one]
    rw [e]
    refine Den.pureI Tryz.func43 rfl 3 [.cell 6 25] (by kernel_rfl) rfl rfl (by simp only [initE_nil, initE_cons, Nat.reduceAdd]; exact rfl) ?_
    repeat' first | (with_reducible first | refine nx' ?_ (by simp -implicitDefEqProofs (disch := omega) only [go_sem, hc]; exact rfl) | refine n0 ?_ | refine rD ?_ | refine n1 ?_ | refine nilB_i fun b hb => ?_ | refine nP ?_ ?_ | refine nS fun K hK => ?_ | (refine n2 ?_ ?_ <;> intro h <;> first | subst (h : _ = true) | subst (h : _ = false) | (simp only [FX, LX, hc] at h) | skip) | refine And.intro ?_ ?_ | refine nK ‹Imp _ _› ?_) | exact nl | fail
    all_goals simp only [digs_len_pos', Bool.true_and, Bool.false_and]
  · have hc : (cmpN (Nat.gcd m n) 1 != 0) = true := by
      have := cmpN_eq (m := Nat.gcd m n) (n := 1)
      rw [bne, this]; simp [h1]
    refine Den.pureI Tryz.func43 rfl 3 [.cell 6 25] (by kernel_rfl) rfl rfl (by simp only [initE_nil, initE_cons, Nat.reduceAdd]; exact rfl) ?_
    repeat' first | (with_reducible first | refine nx' ?_ (by simp -implicitDefEqProofs (disch := omega) only [go_sem, hc]; exact rfl) | refine n0 ?_ | refine rD ?_ | refine n1 ?_ | refine nilB_i fun b hb => ?_ | refine nP ?_ ?_ | refine nS fun K hK => ?_ | (refine n2 ?_ ?_ <;> intro h <;> first | subst (h : _ = true) | subst (h : _ = false) | (simp only [FX, LX, hc] at h) | skip) | refine And.intro ?_ ?_ | refine nK ‹Imp _ _› ?_) | exact nl | fail
    all_goals simp only [mkQ, digs_len_pos', Bool.true_and, Bool.false_and]
theorem natAbs_of {z : Int} (h : 0 ≤ z) : ((z.natAbs : Nat) : Int) = z := Int.natAbs_of_nonneg h
def whQ (z : Int) : Q := ⟨decide (z < 0), z.natAbs, 1⟩
instance (z : Int) : Con CC 21 [.d (.i z)] (-1000000000000 < z ∧ z < 1000000000000) (.d (encQ (whQ z))) := by
  constructor; intro ⟨h1, h2⟩
  by_cases h : z < 0
  · obtain ⟨n, rfl⟩ : ∃ n : Nat, z = -(n : Int) := ⟨z.natAbs, by omega⟩
    have e1 : IntKind.i64.wrap (0 - -(n : Int)) = (n : Int) := by rw [w64 (by omega) (by omega)]; omega
    have e2 : whQ (-(n : Int)) = ⟨true, n, 1⟩ := by unfold whQ; rw [decide_eq_true h, Int.natAbs_neg, Int.natAbs_natCast]
    rw [e2]
    refine Den.pureI Tryz.func21 rfl 1 [.cell 2 25] (by kernel_rfl) rfl rfl (by simp only [initE_nil, initE_cons, Nat.reduceAdd]; exact rfl) ?_
    repeat' first | (with_reducible first | refine nx' ?_ (by simp -implicitDefEqProofs (disch := omega) only [go_sem, e1]; exact rfl) | refine n0 ?_ | refine rD ?_ | refine n1 ?_ | refine nilB_i fun b hb => ?_ | refine nP ?_ ?_ | refine nS fun K hK => ?_ | (refine n2 ?_ ?_ <;> intro h <;> first | subst (h : _ = true) | subst (h : _ = false) | (simp only [FX, LX, e1] at h) | skip) | refine And.intro ?_ ?_ | refine nK ‹Imp _ _› ?_) | exact nl | fail
    all_goals first | (rw [encQ_eq, digs_one]; done) | (simp only [encQ_eq, digs_one]; done) | omega
  · obtain ⟨n, rfl⟩ : ∃ n : Nat, z = (n : Int) := ⟨z.natAbs, by omega⟩
    have e2 : whQ (n : Int) = ⟨false, n, 1⟩ := by unfold whQ; rw [decide_eq_false h, Int.natAbs_natCast]
    rw [e2]
    refine Den.pureI Tryz.func21 rfl 1 [.cell 2 25] (by kernel_rfl) rfl rfl (by simp only [initE_nil, initE_cons, Nat.reduceAdd]; exact rfl) ?_
    repeat' first | (with_reducible first | refine nx' ?_ | refine n0 ?_ | refine rD ?_ | refine n1 ?_ | refine nilB_i fun b hb => ?_ | refine nP ?_ ?_ | refine nS fun K hK => ?_ | (refine n2 ?_ ?_ <;> intro h <;> first | subst (h : _ = true) | subst (h : _ = false) | skip) | refine And.intro ?_ ?_ | refine nK ‹Imp _ _› ?_) | exact nl | fail
    all_goals first | (rw [encQ_eq, digs_one]; done) | (simp only [encQ_eq, digs_one]; done) | omega
instance (b : Bool) (m n : Nat) (c : Bool) (u v : Nat) : Con CC 24 [.d (.agg [.b b, encD (digs m), encD (digs n)]), .d (.agg [.b c, encD (digs u), encD (digs v)])] (lenQ 1000 ⟨b, m, n⟩ ∧ lenQ 1000 ⟨c, u, v⟩) (.d (encQ (mulQ ⟨b, m, n⟩ ⟨c, u, v⟩))) := by
  constructor; rintro ⟨⟨a1, a2, a3⟩, b1, b2, b3⟩
  simp only at a1 a2 a3 b1 b2 b3
  have h1 := digs_mul_le m u
  have h2 := digs_mul_le n v
  have h3 := Nat.mul_pos a3 b3
  refine Den.pureI Tryz.func24 rfl 2 [.cell 4 25] (by kernel_rfl) rfl rfl (by simp only [initE_nil, initE_cons, Nat.reduceAdd]; exact rfl) ?_
  repeat' first | (with_reducible first | refine nx' ?_ | refine n0 ?_ | refine Wp.drawR (by decide +kernel) ?_ | refine Wp.drawSR [9, 14, 15, 16] [false, false, false, false, false, false, false, false, false, true, false, false, false, false, true, true, true] (.op 9 [0,1,2,3,4,10,11,12,13] (.op 14 [0,1,2,3,4] (.op 15 [] (.op 16 [] .done)))) (by decide +kernel) ?_ | refine n1 ?_ | refine nilB_i fun b hb => ?_ | refine nP ?_ ?_ | refine nS fun K hK => ?_ | (refine n2 ?_ ?_ <;> intro h <;> first | subst (h : _ = true) | subst (h : _ = false) | skip) | refine And.intro ?_ ?_ | refine nK ‹Imp _ _› ?_) | exact nl | fail
  all_goals rfl
instance (b : Bool) (m n : Nat) (c : Bool) (u v : Nat) : Con CC 22 [.d (.agg [.b b, encD (digs m), encD (digs n)]), .d (.agg [.b c, encD (digs u), encD (digs v)])] (0 < u ∧ lenQ 1000 ⟨b, m, n⟩ ∧ lenQ 1000 ⟨c, u, v⟩) (.d (encQ (divQ ⟨b, m, n⟩ ⟨c, u, v⟩))) := by
  constructor; rintro ⟨b0, ⟨a1, a2, a3⟩, b1, b2, b3⟩
  simp only at a1 a2 a3 b1 b2 b3
  have h1 := digs_mul_le m v
  have h2 := digs_mul_le n u
  have h3 := Nat.mul_pos a3 b0
  refine Den.pureI Tryz.func22 rfl 2 [.cell 4 25] (by kernel_rfl) rfl rfl (by simp only [initE_nil, initE_cons, Nat.reduceAdd]; exact rfl) ?_
  repeat' first | (with_reducible first | refine nx' ?_ | refine n0 ?_ | refine Wp.drawR (by decide +kernel) ?_ | refine Wp.drawSR [9, 14, 15, 16] [false, false, false, false, false, false, false, false, false, true, false, false, false, false, true, true, true] (.op 9 [0,1,2,3,4,10,11,12,13] (.op 14 [0,1,2,3,4] (.op 15 [] (.op 16 [] .done)))) (by decide +kernel) ?_ | refine n1 ?_ | refine nilB_i fun b hb => ?_ | refine nP ?_ ?_ | refine nS fun K hK => ?_ | (refine n2 ?_ ?_ <;> intro h <;> first | subst (h : _ = true) | subst (h : _ = false) | skip) | refine And.intro ?_ ?_ | refine nK ‹Imp _ _› ?_) | exact nl | fail
  all_goals rfl
instance (b : Bool) (x y : List Int) : Con CC 68 [.d (.agg [.b b, encD x, encD y])] True (.d (.b (decide (x.length ≤ 40) && decide (y.length ≤ 40)))) := by
  constructor; intro _
  refine Den.pureI Tryz.func68 rfl 1 [.tmp 2] (by kernel_rfl) rfl rfl (by simp only [initE_nil, initE_cons, Nat.reduceAdd]; exact rfl) ?_
  repeat' first | (with_reducible first | refine nx' ?_ | refine n0 ?_ | refine rD ?_ | refine n1 ?_ | refine nilB_i fun b hb => ?_ | refine nP ?_ ?_ | refine nS fun K hK => ?_ | (refine n2 ?_ ?_ <;> intro h <;> first | subst (h : _ = true) | subst (h : _ = false) | skip) | refine And.intro ?_ ?_ | refine nK ‹Imp _ _› ?_) | exact nl | fail
  all_goals (congr 3; rw [Bool.eq_iff_iff]; simp; omega)
end Go.PL

/- QB -/
namespace Go.PL
open Go Go.Proofs
set_option maxRecDepth 10000
set_option maxHeartbeats 4000000
set_option linter.unusedSimpArgs false
set_option linter.unusedVariables false
instance (b : Bool) (m n : Nat) : Con CC 45 [.d (.agg [.b b, encD (digs m), encD (digs n)])] ((digs m).length ≤ 40 ∧ (digs n).length ≤ 40) (.tup [.d (.agg [.b b, encD (digs m), encD (digs n)]), .d (.i 0)]) := by
  constructor; intro ⟨h1, h2⟩
  refine Den.pureI Tryz.func45 rfl 1 [.cell 2 25, .tmp 3] (by kernel_rfl) rfl rfl (by simp only [initE_nil, initE_cons, Nat.reduceAdd]; exact rfl) ?_
  repeat' first | (with_reducible first | refine nx' ?_ | refine n0 ?_ | refine rD ?_ | refine n1 ?_ | refine nilB_i fun b hb => ?_ | refine nP ?_ ?_ | refine nS fun K hK => ?_ | (refine n2 ?_ ?_ <;> intro h <;> first | subst (h : _ = true) | subst (h : _ = false) | skip) | refine And.intro ?_ ?_ | refine nK ‹Imp _ _› ?_) | exact nl | fail
  all_goals first | (exfalso; simp at *; omega) | skip
theorem digs3 {n : Nat} (h : n ≤ 1000000000) : (digs n).length ≤ 3 := digs_len_le (by omega)
theorem whQ_n (z : Int) : (whQ z).n = z.natAbs := rfl
theorem whQ_d (z : Int) : (whQ z).d = 1 := rfl
instance (a b : Int) : Con CC 9 [.d (.i a), .d (.i b)] (-1000000000 ≤ a ∧ a ≤ 1000000000 ∧ -1000000000 ≤ b ∧ b ≤ 1000000000 ∧ b ≠ 0) (.tup [.d (encQ (divQ (whQ a) (whQ b))), .d (.i 0)]) := by
  constructor; rintro ⟨h1, h2, h3, h4, h5⟩
  have ha := digs3 (n := a.natAbs) (by omega)
  have hb := digs3 (n := b.natAbs) (by omega)
  have h1 : (digs 1).length = 1 := by rw [digs_one]; rfl
  have hqa : lenQ 1000 (whQ a) := ⟨by show (digs a.natAbs).length ≤ _; omega, by show (digs 1).length ≤ _; omega, Nat.one_pos⟩
  have hqb : lenQ 1000 (whQ b) := ⟨by show (digs b.natAbs).length ≤ _; omega, by show (digs 1).length ≤ _; omega, Nat.one_pos⟩
  have hb0 : 0 < (whQ b).n := by show 0 < b.natAbs; omega
  refine Den.pureI Tryz.func9 rfl 2 [.cell 4 25, .tmp 5] (by kernel_rfl) rfl rfl (by simp only [initE_nil, initE_cons, Nat.reduceAdd]; exact rfl) ?_
  repeat' first | (with_reducible first | refine nx' ?_ | refine n0 ?_ | refine rD ?_ | refine n1 ?_ | refine nilB_i fun b hb => ?_ | refine nP ?_ ?_ | refine nS fun K hK => ?_ | (refine n2 ?_ ?_ <;> intro h <;> first | subst (h : _ = true) | subst (h : _ = false) | skip) | refine And.intro ?_ ?_ | refine nK ‹Imp _ _› ?_) | exact nl | fail
  all_goals first | (exfalso; simp at *; omega) | skip
instance (b : Bool) (m n : Nat) (c : Bool) (u v : Nat) : Con CC 10 [.d (.agg [.b b, encD (digs m), encD (digs n)]), .d (.agg [.b c, encD (digs u), encD (digs v)])] (okRat ⟨b, digs m, digs n⟩ = true ∧ okRat ⟨c, digs u, digs v⟩ = true ∧ 0 < n ∧ 0 < v ∧ (digs m).length ≤ 20 ∧ (digs n).length ≤ 20 ∧ (digs u).length ≤ 20 ∧ (digs v).length ≤ 20) (.tup [.d (encQ (mulQ ⟨b, m, n⟩ ⟨c, u, v⟩)), .d (.i 0)]) := by
  constructor; rintro ⟨k1, k2, a0, b0, h1, h2, h3, h4⟩
  have hl := mulQ_len (L := 20) (a := ⟨b, m, n⟩) (b := ⟨c, u, v⟩) ⟨h1, h2, a0⟩ ⟨h3, h4, b0⟩
  obtain ⟨l1, l2, l3⟩ := hl
  have cR : CC 14 [.d (.sl [.agg [.b b, encD (digs m), encD (digs n)], .agg [.b c, encD (digs u), encD (digs v)]])] [] (.d (.i 0)) [] := by
    have h := Con.ok (C := CC) (n := 14) (vs := [.d (.sl ([(⟨b, digs m, digs n⟩ : Rt), ⟨c, digs u, digs v⟩].map encR))]) (by
      refine ⟨by simp, fun x hx => ?_⟩
      simp only [List.mem_cons, List.not_mem_nil, or_false] at hx
      rcases hx with rfl | rfl <;> constructor <;> simp only <;> omega)
    rw [if_pos (by simp [k1, k2])] at h
    exact h
  have cT : CC 24 [.d (.agg [.b b, encD (digs m), encD (digs n)]), .d (.agg [.b c, encD (digs u), encD (digs v)])] [] (.d (encQ (mulQ ⟨b, m, n⟩ ⟨c, u, v⟩))) [] :=
    Con.ok (C := CC) ⟨⟨by simp only; omega, by simp only; omega, a0⟩, by simp only; omega, by simp only; omega, b0⟩
  have cO : CC 23 [.d (.agg [.b b, encD (digs m), encD (digs n)]), .d (.agg [.b c, encD (digs u), encD (digs v)]), .d (.fn (.func 24) [] [])] [] (.tup [.d (encQ (mulQ ⟨b, m, n⟩ ⟨c, u, v⟩)), .d (.i 0)]) [] := by
    refine Den.pureI Tryz.func23 rfl 3 [.cell 6 25, .tmp 7] (by kernel_rfl) rfl rfl (by simp only [initE_nil, initE_cons, Nat.reduceAdd]; exact rfl) ?_
    repeat' first | (with_reducible first | refine nx' ?_ | refine n0 ?_ | refine rD ?_ | refine n1 ?_ | refine nilB_i fun b hb => ?_ | refine nPc (cR) ?_ | refine nPc (cT) ?_ | refine nP ?_ ?_ | refine nS fun K hK => ?_ | (refine n2 ?_ ?_ <;> intro h <;> first | subst (h : _ = true) | subst (h : _ = false) | skip) | refine And.intro ?_ ?_ | refine nK ‹Imp _ _› ?_) | exact nl | fail
  refine Den.pureI Tryz.func10 rfl 2 [.cell 4 25, .tmp 5] (by kernel_rfl) rfl rfl (by simp only [initE_nil, initE_cons, Nat.reduceAdd]; exact rfl) ?_
  repeat' first | (with_reducible first | refine nx' ?_ | refine n0 ?_ | refine rD ?_ | refine n1 ?_ | refine nilB_i fun b hb => ?_ | refine nPc (cO) ?_ | refine nP ?_ ?_ | refine nS fun K hK => ?_ | (refine n2 ?_ ?_ <;> intro h <;> first | subst (h : _ = true) | subst (h : _ = false) | skip) | refine And.intro ?_ ?_ | refine nK ‹Imp _ _› ?_) | exact nl | fail
end Go.PL

/- PlSrc -/
/- Frames with a place that is told: methods of a pointer to a struct of three cells of data. -/
namespace Go.PL
open Go
theorem blt_mono {o n m : Nat} (h : Nat.blt o n = true) (hm : n ≤ m) : Nat.blt o m = true := by
  rw [Nat.blt_eq] at h ⊢; omega
theorem V.bnd1_mono {n m : Nat} (hm : n ≤ m) : ∀ {v : V}, V.bnd1 n v = true → V.bnd1 m v = true
  | .d _, _ => rfl
  | .any, _ => rfl
  | .ref .., h => blt_mono h hm
  | .msl .., h => blt_mono h hm
  | .agg _, h => by cases h
  | .fn .., h => by cases h
  | .tup _, h => by cases h
theorem all_mono {α : Type} {p q : α → Bool} {l : List α} (h : ∀ x, p x = true → q x = true) (hl : l.all p = true) : l.all q = true := by
  rw [List.all_eq_true] at hl ⊢; exact fun x hx => h x (hl x hx)
theorem V.bnd_mono {n m : Nat} (hm : n ≤ m) {v : V} (h : V.bnd n v = true) : V.bnd m v = true := by
  cases v with
  | agg cs => exact all_mono (fun _ => V.bnd1_mono hm) h
  | fn f a b =>
    simp only [V.bnd, Bool.and_eq_true] at h ⊢
    exact ⟨all_mono (fun _ => V.bnd1_mono hm) h.1, all_mono (fun _ => V.bnd1_mono hm) h.2⟩
  | d x => rfl
  | ref o i j => exact V.bnd1_mono (v := .ref o i j) hm h
  | msl o i j => exact V.bnd1_mono (v := .msl o i j) hm h
  | tup cs => exact V.bnd1_mono (v := .tup cs) hm h
  | any => rfl
theorem Ob.bnd_mono {n m : Nat} (hm : n ≤ m) {x : Ob} (h : Ob.bnd n x = true) : Ob.bnd m x = true := by
  cases x with
  | var cs fz => exact all_mono (fun _ => V.bnd_mono hm) h
  | arr => rfl
  | dead => rfl
theorem kill1_bnd {n k : Nat} (hk : n ≤ k) : ∀ {v : V}, V.bnd1 n v = true → kill1 k v = v
  | .d _, _ => rfl
  | .any, _ => rfl
  | .ref o i j, h => by
    have : Nat.beq o k = false := by
      rw [Bool.eq_false_iff]; intro e
      have := Nat.eq_of_beq_eq_true e
      simp only [V.bnd1, Nat.blt_eq] at h; omega
    simp [kill1, this]
  | .msl o i j, h => by
    have : Nat.beq o k = false := by
      rw [Bool.eq_false_iff]; intro e
      have := Nat.eq_of_beq_eq_true e
      simp only [V.bnd1, Nat.blt_eq] at h; omega
    simp [kill1, this]
  | .agg _, h => by cases h
  | .fn .., h => by cases h
  | .tup _, h => by cases h
theorem map_same {α : Type} {f : α → α} : ∀ {l : List α}, (∀ x ∈ l, f x = x) → l.map f = l
  | [], _ => rfl
  | x :: r, h => by rw [List.map_cons, h x (by simp), map_same fun y hy => h y (by simp [hy])]
theorem killL_bnd {n k : Nat} (hk : n ≤ k) {l : List V} (h : l.all (V.bnd1 n) = true) : l.map (kill1 k) = l := by
  rw [List.all_eq_true] at h
  exact map_same fun x hx => kill1_bnd hk (h x hx)
theorem kill_bnd {n k : Nat} (hk : n ≤ k) {v : V} (h : V.bnd n v = true) : PL.kill k v = v := by
  cases v with
  | agg cs => show V.agg (cs.map _) = _; rw [killL_bnd hk h]
  | fn f a b =>
    simp only [V.bnd, Bool.and_eq_true] at h
    show V.fn f (a.map _) (b.map _) = _
    rw [killL_bnd hk h.1, killL_bnd hk h.2]
  | d x => rfl
  | ref o i j => exact kill1_bnd (v := .ref o i j) hk h
  | msl o i j => exact kill1_bnd (v := .msl o i j) hk h
  | tup cs => cases h
  | any => rfl
theorem Ob.kill_bnd {n k : Nat} (hk : n ≤ k) {x : Ob} (h : Ob.bnd n x = true) : Ob.kill k x = x := by
  cases x with
  | var cs fz =>
    show Ob.var (cs.map _) fz = _
    have h' : cs.all (V.bnd n) = true := h
    rw [List.all_eq_true] at h'
    rw [map_same fun v hv => PL.kill_bnd hk (h' v hv)]
  | arr => rfl
  | dead => rfl
theorem modify_app {f : Ob → Ob} : ∀ (a l : List Ob) (k : Nat), (a ++ l).modify (a.length + k) f = a ++ l.modify k f
  | [], l, k => by simp
  | x :: r, l, k => by
    rw [List.length_cons, show r.length + 1 + k = r.length + k + 1 by omega, List.cons_append, List.modify_succ_cons, modify_app r l k]; rfl
theorem killO_bnd {n k : Nat} (hk : n ≤ k) {l : List Ob} (h : l.all (Ob.bnd n) = true) : killO k l = l := by
  rw [killO_eq]
  rw [List.all_eq_true] at h
  exact map_same fun x hx => Ob.kill_bnd hk (h x hx)
theorem all_set' {n : Nat} {os : List Ob} {o : Nat} {X : Ob} (h : os.all (Ob.bnd n) = true) (hx : Ob.bnd n X = true) : (os.set o X).all (Ob.bnd n) = true := by
  rw [List.all_eq_true] at h ⊢
  intro y hy
  rcases List.mem_or_eq_of_mem_set hy with h1 | h1
  · exact h y h1
  · rw [h1]; exact hx
/-- A frame with a place that is told. -/
class Fr (os : List Ob) (o : Nat) : Prop where
  lt : o < os.length
  bd : os.all (Ob.bnd os.length) = true
/-- A struct of three cells of data. -/
abbrev V3 (a b c : D) : Ob := .var [.d a, .d b, .d c] false
section
variable {os : List Ob} {o : Nat}
theorem Fr.g1 (h : Fr os o) : ∀ X, (os.set o X)[o]? = some X := fun X => by rw [List.getElem?_set_self h.lt]
theorem Fr.g2 (h : Fr os o) : ∀ X l, (os.set o X ++ l)[o]? = some X := fun X l => by rw [List.getElem?_append_left (by rw [List.length_set]; exact h.lt), h.g1]
theorem Fr.s1 (_h : Fr os o) : ∀ X Y : Ob, (os.set o X).set o Y = os.set o Y := fun X Y => by simp
theorem Fr.s2 (h : Fr os o) : ∀ (X Y : Ob) l, (os.set o X ++ l).set o Y = os.set o Y ++ l := fun X Y l => by rw [List.set_append_left _ _ (by rw [List.length_set]; exact h.lt), h.s1]
theorem Fr.n0 (_h : Fr os o) : ∀ (X : Ob) l, (os.set o X ++ l)[os.length]? = l[0]? := fun X l => by rw [List.getElem?_append_right (by simp), List.length_set, Nat.sub_self]
theorem Fr.n1 (_h : Fr os o) : ∀ (X : Ob) l k, (os.set o X ++ l)[os.length + k]? = l[k]? := fun X l k => by rw [List.getElem?_append_right (by simp), List.length_set, Nat.add_sub_cancel_left]
theorem Fr.t0 (_h : Fr os o) : ∀ (X Y : Ob) l, (os.set o X ++ l).set os.length Y = os.set o X ++ l.set 0 Y := fun X Y l => by rw [List.set_append_right _ _ (by simp), List.length_set, Nat.sub_self]
theorem Fr.t1 (_h : Fr os o) : ∀ (X Y : Ob) l k, (os.set o X ++ l).set (os.length + k) Y = os.set o X ++ l.set k Y := fun X Y l k => by rw [List.set_append_right _ _ (by simp), List.length_set, Nat.add_sub_cancel_left]
theorem Fr.l0 (_h : Fr os o) : ∀ X : Ob, (os.set o X).length = os.length := fun X => List.length_set
theorem Fr.l1 (_h : Fr os o) : ∀ (X : Ob) l, (os.set o X ++ l).length = os.length + l.length := fun X l => by rw [List.length_append, List.length_set]
theorem Fr.kA (h : Fr os o) {k : Nat} (hk : os.length ≤ k) {a b c : D} {l : List Ob} : killO k (os.set o (V3 a b c) ++ l) = os.set o (V3 a b c) ++ killO k l := by
  rw [killO_eq, List.map_append, ← killO_eq, ← killO_eq, killO_bnd hk (all_set' h.bd rfl)]
theorem Fr.k0 (h : Fr os o) : ∀ a b c l, killO os.length (os.set o (V3 a b c) ++ l) = os.set o (V3 a b c) ++ killO os.length l := fun _ _ _ _ => h.kA (Nat.le_refl _)
theorem Fr.k1 (h : Fr os o) : ∀ a b c l k, killO (os.length + k) (os.set o (V3 a b c) ++ l) = os.set o (V3 a b c) ++ killO (os.length + k) l := fun _ _ _ _ _ => h.kA (by omega)
theorem Fr.m1 (_h : Fr os o) : ∀ (X : Ob) l k, (os.set o X ++ l).modify (os.length + k) Ob.fz = os.set o X ++ l.modify k Ob.fz := fun X l k => by
  have := modify_app (f := Ob.fz) (os.set o X) l k
  rwa [List.length_set] at this
theorem Fr.m0 (h : Fr os o) : ∀ (X : Ob) l, (os.set o X ++ l).modify os.length Ob.fz = os.set o X ++ l.modify 0 Ob.fz := fun X l => h.m1 X l 0
theorem Fr.b0 (_h : Fr os o) : (os.length == os.length) = true := by simp
theorem Fr.b1 (_h : Fr os o) : ∀ k, (os.length == os.length + (k + 1)) = false := fun k => by simp
theorem Fr.b2 (_h : Fr os o) : ∀ k, (os.length + (k + 1) == os.length) = false := fun k => by simp
theorem Fr.b3 (h : Fr os o) : (o == os.length) = false := by have := h.lt; simp; omega
theorem Fr.b4 (h : Fr os o) : ∀ k, (o == os.length + k) = false := fun k => by have := h.lt; simp; omega
theorem Fr.b5 (_h : Fr os o) : ∀ j k, (os.length + j == os.length + k) = (j == k) := fun j k => by rw [Bool.eq_iff_iff]; simp
theorem Fr.cut (h : Fr os o) {env env' : List (Nat × V)} {a b c : D} {L l tl : List Ob} (he : sub env env') (h1 : (env'.all fun p => p.2.bnd (os.length + l.length)) = true) (h2 : (l.all (Ob.bnd (os.length + l.length))) = true) (ho : L = l ++ tl := by exact rfl) :
    Weak os.length ⟨env, os.set o (V3 a b c) ++ L⟩ ⟨env', os.set o (V3 a b c) ++ l⟩ := by
  subst ho
  refine .drop tl (by simp) he (by simp) (by rw [List.length_append, List.length_set]; exact h1) ?_
  rw [List.all_append, Bool.and_eq_true, List.length_append, List.length_set]
  exact ⟨all_mono (fun _ => Ob.bnd_mono (by omega)) (all_set' (X := V3 a b c) h.bd rfl), h2⟩
theorem Fr.set (h : Fr os o) {X : Ob} (hx : Ob.bnd os.length X = true) : Fr (os.set o X) o := ⟨by rw [List.length_set]; exact h.lt, by rw [List.length_set]; exact all_set' h.bd hx⟩
theorem Fr.app (h : Fr os o) {l : List Ob} (hl : l.all (Ob.bnd (os.length + l.length)) = true) : Fr (os ++ l) o := ⟨by rw [List.length_append]; have := h.lt; omega, by
  rw [List.all_append, Bool.and_eq_true, List.length_append]
  exact ⟨all_mono (fun _ => Ob.bnd_mono (by omega)) h.bd, hl⟩⟩
end
/-- Arrays alone. -/
class ArrL (l : List Ob) : Prop where
  h : ∀ n, l.all (Ob.bnd n) = true
instance : ArrL [] := ⟨fun _ => rfl⟩
instance {sz : Nat} {es : List D} {fz : Bool} {l : List Ob} [h : ArrL l] : ArrL (.arr sz es fz :: l) := ⟨fun n => by rw [List.all_cons, h.h n]; rfl⟩
/-- Cells of data alone. -/
class VDs (cs : List V) : Prop where
  h : ∀ n, cs.all (V.bnd n) = true
instance : VDs [] := ⟨fun _ => rfl⟩
instance {x : D} {r : List V} [h : VDs r] : VDs (.d x :: r) := ⟨fun n => by rw [List.all_cons, h.h n]; rfl⟩
instance {cs : List V} {fz : Bool} {l : List Ob} [k : VDs cs] [h : ArrL l] : ArrL (.var cs fz :: l) := ⟨fun n => by rw [List.all_cons, h.h n]; show (cs.all (V.bnd n) && true) = true; rw [k.h n]; rfl⟩
section
variable {os : List Ob} {o : Nat} [h : Fr os o]
instance {a b c : D} : Fr (os.set o (V3 a b c)) o := h.set rfl
instance {l : List Ob} [k : ArrL l] : Fr (os ++ l) o := h.app (k.h _)
theorem fg1 {X : Ob} : (os.set o X)[o]? = some X := h.g1 X
theorem fg2 {X : Ob} {l : List Ob} : (os.set o X ++ l)[o]? = some X := h.g2 X l
theorem fs1 {X Y : Ob} : (os.set o X).set o Y = os.set o Y := h.s1 X Y
theorem fs2 {X Y : Ob} {l : List Ob} : (os.set o X ++ l).set o Y = os.set o Y ++ l := h.s2 X Y l
theorem fn0 {X : Ob} {l : List Ob} : (os.set o X ++ l)[os.length]? = l[0]? := h.n0 X l
theorem fn1 {X : Ob} {l : List Ob} {k : Nat} : (os.set o X ++ l)[os.length + k]? = l[k]? := h.n1 X l k
theorem ft0 {X Y : Ob} {l : List Ob} : (os.set o X ++ l).set os.length Y = os.set o X ++ l.set 0 Y := h.t0 X Y l
theorem ft1 {X Y : Ob} {l : List Ob} {k : Nat} : (os.set o X ++ l).set (os.length + k) Y = os.set o X ++ l.set k Y := h.t1 X Y l k
theorem fl0 {X : Ob} : (os.set o X).length = os.length := h.l0 X
theorem fl1 {X : Ob} {l : List Ob} : (os.set o X ++ l).length = os.length + l.length := h.l1 X l
theorem fk0 {a b c : D} {l : List Ob} : killO os.length (os.set o (V3 a b c) ++ l) = os.set o (V3 a b c) ++ killO os.length l := h.k0 a b c l
theorem fk1 {a b c : D} {l : List Ob} {k : Nat} : killO (os.length + k) (os.set o (V3 a b c) ++ l) = os.set o (V3 a b c) ++ killO (os.length + k) l := h.k1 a b c l k
theorem fm0 {X : Ob} {l : List Ob} : (os.set o X ++ l).modify os.length Ob.fz = os.set o X ++ l.modify 0 Ob.fz := h.m0 X l
theorem fm1 {X : Ob} {l : List Ob} {k : Nat} : (os.set o X ++ l).modify (os.length + k) Ob.fz = os.set o X ++ l.modify k Ob.fz := h.m1 X l k
theorem fb3 : (o == os.length) = false := h.b3
theorem fb4 {k : Nat} : (o == os.length + k) = false := h.b4 k
end
theorem fb0 {n : Nat} : (n == n) = true := by simp
theorem fb1 {n k : Nat} : (n == n + (k + 1)) = false := by simp
theorem fb2 {n k : Nat} : (n + (k + 1) == n) = false := by simp
theorem fb5 {n j k : Nat} : (n + j == n + k) = (j == k) := by rw [Bool.eq_iff_iff]; simp
theorem fbo1 {n : Nat} : (n == n + 1) = false := by simp
theorem fbo2 {n : Nat} : (n + 1 == n) = false := by simp
theorem fbo3 {n : Nat} : (n == n + 2) = false := by simp
theorem fbo4 {n : Nat} : (n + 2 == n) = false := by simp
theorem pair_eta {α β : Type} {p : α × β} : (p.1, p.2) = p := rfl
attribute [go_sem] pair_eta fg1 fg2 fs1 fs2 fn0 fn1 ft0 ft1 fl0 fl1 fk0 fk1 fm0 fm1 fb3 fb4 fb0 fb5 fbo1 fbo2 fbo3 fbo4
/-- A method of such a pointer, by what it does to the three cells. -/
class ConS (C : Call) (n : FuncId) (vs : List V) (a b c : D) (pre : outParam Prop) (r : outParam V) (a' b' c' : outParam D) : Prop where
  ok : ∀ os o, Fr os o → pre → C n (.ref o 0 0 :: vs) (os.set o (V3 a b c)) r (os.set o (V3 a' b' c'))
section
variable {T : Tab} {C : Call} {nF : Nat} {env : List (Nat × V)} {os : List Ob} {K : St → Prop} {f : Operand} {args : List Operand} {ats : Array TypeId} {n : FuncId} {vs : List V} {o : Nat} {a b c a' b' c' : D} {pre : Prop} {r : V} {d : Tmp}
theorem set_same {os : List Ob} {o : Nat} {X : Ob} (h : os[o]? = some X) : os.set o X = os := by
  obtain ⟨hlt, rfl⟩ := List.getElem?_eq_some_iff.1 h
  simp
theorem wS3 (e : calleeR (ev env f) (evL env args) = some (n, .ref o 0 0 :: vs)) (e2 : os[o]? = some (V3 a b c)) (i : ConS C n vs a b c pre r a' b' c') (hF : Fr os o) (hp : pre) (k : K ⟨(d, r) :: env, os.set o (V3 a' b' c')⟩) :
    op1R T C nF (some d) (.call { callee := .value f, args := args.toArray, argTypes := ats }) ⟨env, os⟩ K := by
  have h := i.ok os o hF hp
  rw [set_same e2] at h
  exact wCm e h k
end
/-- A call of a method of such a pointer. -/
theorem nPs {P pre Q : Prop} (h : pre) (h2 : Q) (e : pre → Q → P := by
  intro b c
  first
  | (refine wS3 (by simp -implicitDefEqProofs (disch := omega) only [calleeR, go_sem]; first | done | exact rfl | fail) (by simp -implicitDefEqProofs (disch := omega) only [go_sem]; first | done | exact rfl | fail) inferInstance (by first | infer_instance | exact ⟨by simp, rfl⟩ | fail) b ?_; refine Eq.mpr ?_ c; simp -implicitDefEqProofs (disch := omega) only [go_sem]; exact rfl)
  | fail) : P := e h h2
end Go.PL
