/- A plain machine, sound for the given model, and contracts of functions over it, part 41: EK. Nothing is assumed. -/
import Derived.Test.YtapgbbaefieibacGreatDoorEJ
set_option linter.unusedSimpArgs false
set_option linter.unusedVariables false
set_option linter.unusedSectionVars false
/- EK -/
namespace Go.PL
open Go Go.Proofs
set_option maxRecDepth 10000
set_option maxHeartbeats 4000000
set_option linter.unusedSimpArgs false
set_option linter.unusedVariables false
theorem okE_parts {l : List Nd} (h : okE l = true) : 1 ≤ l.length ∧ l.length ≤ 60 ∧ ∃ bg dp, shp l l.length = some (bg, dp) ∧ ∀ t, t < l.length → dp.getD t 0 ≤ 12 := by
  unfold okE at h
  rw [Bool.and_eq_true, decide_eq_true_eq] at h
  obtain ⟨⟨h1, h2⟩, h3⟩ := h
  cases hs : shp l l.length with
  | none => rw [hs] at h3; cases h3
  | some q =>
    obtain ⟨bg, dp⟩ := q
    rw [hs] at h3
    have h4 : (decide (bg.getD (l.length - 1) 0 = 0) && decide (∀ t, t < l.length → dp.getD t 0 ≤ 12)) = true := h3
    rw [Bool.and_eq_true, decide_eq_true_eq, decide_eq_true_eq] at h4
    exact ⟨h1, h2, bg, dp, rfl, h4.2⟩
/-- An expression's text. -/
def exTB (l : List Nd) : ByteArray := (texts l l.length).getD (l.length - 1) e0
instance (l : List Nd) : Con CC 49 [.d (.agg [.sl (l.map encNd)])] (okE l = true) (.d (.s (exTB l))) := by
  constructor; intro ho
  obtain ⟨h1, h2, bg, dp, hs, h12⟩ := okE_parts ho
  have hp := printed_c l h2 hs h12
  have hl := texts_len l l.length
  have e1 : ((l.length : Int) - 1).toNat = l.length - 1 := by omega
  refine Den.pureI Tryz.func49 rfl 1 [.tmp 2] (by kernel_rfl) rfl rfl (by simp only [initE_nil, initE_cons, Nat.reduceAdd]; exact rfl) ?_
  repeat' first | (with_reducible first | refine nx' ?_ (by simp -implicitDefEqProofs (disch := omega) only [go_sem, e1]; exact rfl) | refine n0 ?_ | refine Wp.drawR (by decide +kernel) ?_ | refine Wp.drawSR [2, 7, 8, 9] [false, false, true, false, false, false, false, true, true, true] (.op 2 [3,4,5,6] (.op 7 [] (.op 8 [] (.op 9 [] .done)))) (by decide +kernel) ?_ | refine n1 ?_ | refine nilB_i fun b hb => ?_ | refine nPc (hp) ?_ | refine nP ?_ ?_ | refine nS fun K hK => ?_ | (refine n2 ?_ ?_ <;> intro h <;> first | subst (h : _ = true) | subst (h : _ = false) | (simp only [FX, LX, e1] at h) | skip) | refine And.intro ?_ ?_ | refine nK ‹Imp _ _› ?_) | exact nl | fail
  all_goals rfl
theorem digits_z (z : Int) (h : 0 ≤ z ∧ z ≤ 999999999) : CC 44 [.d (.i z)] [] (.d (.s (digB z.toNat))) [] := by
  obtain ⟨n, rfl⟩ : ∃ n : Nat, z = n := ⟨z.toNat, by omega⟩
  exact digits_c n (by omega)
theorem arr_s4 {a b c d : ByteArray} {fz : Bool} : Ob.arr 1 [D.val (.string a), D.val (.string b), D.val (.string c), D.val (.string d)] fz = .arr 1 ([a, b, c, d].map .s) fz := rfl
attribute [go_sem] arr_s4
theorem sign_at {o : Int} (h : 3 ≤ o ∧ o ≤ 6) : [ByteArray.mk #[43], ByteArray.mk #[45], ByteArray.mk #[42], ByteArray.mk #[47]].getD (o - 3).toNat ByteArray.empty = signB o := by
  have : o = 3 ∨ o = 4 ∨ o = 5 ∨ o = 6 := by omega
  rcases this with rfl | rfl | rfl | rfl <;> rfl
theorem inn_true (l : List Nd) (ts : List ByteArray) (k : Nat) : inn l ts k true = if (l.getD k nd0).op = 7 ∨ (l.getD k nd0).op = 8 then ByteArray.mk #[40] ++ inn l ts k false ++ ByteArray.mk #[41] else inn l ts k false := by
  have hko := kids_one (l.getD k nd0).op
  unfold inn
  by_cases h : (l.getD k nd0).op = 7 ∨ (l.getD k nd0).op = 8
  · have := hko.2 h
    rw [if_pos h, if_pos (.inr ⟨rfl, this⟩), if_neg (by rintro (g | ⟨g, _⟩); omega; cases g)]
  · have : ¬ kidsN (l.getD k nd0).op = 1 := fun g => h (hko.1 g)
    rw [if_neg h]
    by_cases h2 : kidsN (l.getD k nd0).op = 2
    · rw [if_pos (.inl h2), if_pos (.inl h2)]
    · rw [if_neg (by rintro (g | ⟨_, g⟩) <;> contradiction), if_neg (by rintro (g | ⟨g, _⟩); contradiction; cases g)]
theorem innS_c (l : List Nd) (hl : l.length ≤ 60) (k : Nat) (hk : k < l.length) (hz : ((texts l l.length).getD k ByteArray.empty).size ≤ 40960000000000)
    (ht : CC 40 [.d (.agg [.sl (l.map encNd)]), .d (.i k)] [] (.d (.s ((texts l l.length).getD k ByteArray.empty))) []) :
    CC 67 [.d (.agg [.sl (l.map encNd)]), .d (.i k)] [] (.d (.s (inn l (texts l l.length) k false))) [] := by
  have e1 : (ByteArray.mk #[40]).size = 1 := rfl
  have e2 : (ByteArray.mk #[41]).size = 1 := rfl
  have hkt := kids_two (l.getD k nd0).op
  refine Den.pureI Tryz.func67 rfl 2 [.tmp 4] (by kernel_rfl) rfl rfl (by simp only [initE_nil, initE_cons, Nat.reduceAdd]; exact rfl) ?_
  repeat' first | (with_reducible first | refine nx' ?_ (by simp -implicitDefEqProofs (disch := omega) only [go_sem, e1, e2, ByteArray.size_append]; exact rfl) | refine n0 ?_ | refine rD ?_ | refine n1 ?_ | refine nilB_i fun b hb => ?_ | refine nPc (ht) ?_ | refine nP ?_ ?_ | refine nS fun K hK => ?_ | (refine n2 ?_ ?_ <;> intro h <;> first | subst (h : _ = true) | subst (h : _ = false) | (simp only [FX, LX, e1, e2, ByteArray.size_append] at h) | skip) | refine And.intro ?_ ?_ | refine nK ‹Imp _ _› ?_) | exact nl | fail
  · rw [inn, if_pos (.inl (hkt.2 (by omega)))]
  · rw [inn, if_neg (by rintro (g | ⟨g, _⟩); have := hkt.1 g; omega; cases g)]
set_option maxHeartbeats 4000000 in
theorem textS_c (l : List Nd) {bg dp : List Int} (hl : l.length ≤ 60) (hs : shp l l.length = some (bg, dp)) (h12 : ∀ t, t < l.length → dp.getD t 0 ≤ 12) (j : Nat) :
    j < l.length → CC 40 [.d (.agg [.sl (l.map encNd)]), .d (.i j)] [] (.d (.s ((texts l l.length).getD j ByteArray.empty))) [] := by
  induction j using Nat.strongRecOn with
  | _ j ih =>
    intro hj
    obtain ⟨lb, ld, hat, hbb, hdb⟩ := shp_spec hs
    obtain ⟨hp, q1, q2, q0⟩ := nstep_inv (hat j hj)
    obtain ⟨ka, kb⟩ := plOk_kids hp
    obtain ⟨hop, hn⟩ := plOk_num hp
    have hko := kids_one (l.getD j nd0).op
    have hkt := kids_two (l.getD j nd0).op
    have hte : (texts l l.length).getD j ByteArray.empty = textN l (texts l l.length) (l.getD j nd0) := texts_eq hs hj
    have hsz : ∀ k, k < l.length → ((texts l l.length).getD k ByteArray.empty).size ≤ 40960000000000 := fun k hk => texts_fin hs h12 _ (Nat.le_refl _) k hk
    have hin : ∀ k, k < j → CC 67 [.d (.agg [.sl (l.map encNd)]), .d (.i k)] [] (.d (.s (inn l (texts l l.length) k false))) [] := fun k hk => innS_c l hl k (by omega) (hsz k (by omega)) (ih k hk (by omega))
    have his := fun k => inn_size l (texts l l.length) k false
    have hit := fun k => inn_true l (texts l l.length) k
    generalize hT : texts l l.length = T at *
    rw [hte]
    generalize hx : l.getD j nd0 = x at *
    have hg := digB_size x.n.toNat
    have hd := digits_z x.n hn
    have e1 : (ByteArray.mk #[120]).size = 1 := rfl
    have e2 : (ByteArray.mk #[45]).size = 1 := rfl
    have e3 : (ByteArray.mk #[94]).size = 1 := rfl
    have e4 : (ByteArray.mk #[32]).size = 1 := rfl
    have e5 : (ByteArray.mk #[40]).size = 1 := rfl
    have e6 : (ByteArray.mk #[41]).size = 1 := rfl
    by_cases o1 : x.op = 1
    · refine Den.pureI Tryz.func40 rfl 2 [.tmp 4] (by kernel_rfl) rfl rfl (by simp only [initE_nil, initE_cons, Nat.reduceAdd]; exact rfl) ?_
      repeat' first | (with_reducible first | refine nx' ?_ (by simp -implicitDefEqProofs (disch := omega) only [go_sem, hx, o1]; exact rfl) | refine n0 ?_ | refine Wp.drawR (by decide +kernel) ?_ | refine Wp.drawSR [5, 9, 10, 11, 12, 17, 18] [false, false, false, false, false, true, false, false, false, true, true, true, true, false, false, false, false, true, true] (.op 5 [0,1,2,3,4,6,7,8,13,14,15,16] (.op 9 [0,1,2,3,4,13,14,15,16] (.op 10 [0,1,2,3,4,13,14,15,16] (.op 11 [13,14,15,16] (.op 12 [13,14,15,16] (.op 17 [] (.op 18 [] .done))))))) (by decide +kernel) ?_ | refine n1 ?_ | refine nilB_i fun b hb => ?_ | refine nPc (hd) ?_ | refine nP ?_ ?_ | refine nS fun K hK => ?_ | (refine n2 ?_ ?_ <;> intro h <;> first | subst (h : _ = true) | subst (h : _ = false) | (simp only [FX, LX, hx, o1] at h) | skip) | refine And.intro ?_ ?_ | refine nK ‹Imp _ _› ?_) | exact nl | fail
      all_goals (rw [textN, if_pos o1])
    by_cases o2 : x.op = 2
    · refine Den.pureI Tryz.func40 rfl 2 [.tmp 4] (by kernel_rfl) rfl rfl (by simp only [initE_nil, initE_cons, Nat.reduceAdd]; exact rfl) ?_
      repeat' first | (with_reducible first | refine nx' ?_ (by simp -implicitDefEqProofs (disch := omega) only [go_sem, hx, o2, e1]; exact rfl) | refine n0 ?_ | refine Wp.drawR (by decide +kernel) ?_ | refine Wp.drawSR [5, 9, 10, 11, 12, 17, 18] [false, false, false, false, false, true, false, false, false, true, true, true, true, false, false, false, false, true, true] (.op 5 [0,1,2,3,4,6,7,8,13,14,15,16] (.op 9 [0,1,2,3,4,13,14,15,16] (.op 10 [0,1,2,3,4,13,14,15,16] (.op 11 [13,14,15,16] (.op 12 [13,14,15,16] (.op 17 [] (.op 18 [] .done))))))) (by decide +kernel) ?_ | refine n1 ?_ | refine nilB_i fun b hb => ?_ | refine nPc (hd) ?_ | refine nP ?_ ?_ | refine nS fun K hK => ?_ | (refine n2 ?_ ?_ <;> intro h <;> first | subst (h : _ = true) | subst (h : _ = false) | (simp only [FX, LX, hx, o2, e1] at h) | skip) | refine And.intro ?_ ?_ | refine nK ‹Imp _ _› ?_) | exact nl | fail
      all_goals (rw [textN, if_neg o1, if_pos o2])
    by_cases o78 : x.op = 7 ∨ x.op = 8
    · have ha := ka (by have := hko.2 o78; omega)
      have hia := hin x.a.toNat (by omega)
      rw [show ((x.a.toNat : Nat) : Int) = x.a by omega] at hia
      have hia2 := his x.a.toNat
      have hia3 := hsz x.a.toNat (by omega)
      have hia4 : (inn l T x.a.toNat false).size ≤ (T.getD x.a.toNat ByteArray.empty).size + 2 := hia2
      have hit2 := hit x.a.toNat
      by_cases o7 : x.op = 7
      · refine Den.pureI Tryz.func40 rfl 2 [.tmp 4] (by kernel_rfl) rfl rfl (by simp only [initE_nil, initE_cons, Nat.reduceAdd]; exact rfl) ?_
        repeat' first | (with_reducible first | refine nx' ?_ (by simp -implicitDefEqProofs (disch := omega) only [go_sem, hx, o7, e2, ByteArray.size_append]; exact rfl) | refine n0 ?_ | refine Wp.drawR (by decide +kernel) ?_ | refine Wp.drawSR [5, 9, 10, 11, 12, 17, 18] [false, false, false, false, false, true, false, false, false, true, true, true, true, false, false, false, false, true, true] (.op 5 [0,1,2,3,4,6,7,8,13,14,15,16] (.op 9 [0,1,2,3,4,13,14,15,16] (.op 10 [0,1,2,3,4,13,14,15,16] (.op 11 [13,14,15,16] (.op 12 [13,14,15,16] (.op 17 [] (.op 18 [] .done))))))) (by decide +kernel) ?_ | refine n1 ?_ | refine nilB_i fun b hb => ?_ | refine nPc (hia) ?_ | refine nP ?_ ?_ | refine nS fun K hK => ?_ | (refine n2 ?_ ?_ <;> intro h <;> first | subst (h : _ = true) | subst (h : _ = false) | (simp only [FX, LX, hx, o7, e2, ByteArray.size_append] at h) | skip) | refine And.intro ?_ ?_ | refine nK ‹Imp _ _› ?_) | exact nl | fail
        all_goals (rw [textN, if_neg o1, if_neg o2, if_pos o7])
      · have o8 : x.op = 8 := by omega
        generalize hy : l.getD x.a.toNat nd0 = y at *
        refine Den.pureI Tryz.func40 rfl 2 [.tmp 4] (by kernel_rfl) rfl rfl (by simp only [initE_nil, initE_cons, Nat.reduceAdd]; exact rfl) ?_
        repeat' first | (with_reducible first | refine nx' ?_ (by simp -implicitDefEqProofs (disch := omega) only [go_sem, hx, hy, o8, e3, e5, e6, ByteArray.size_append]; exact rfl) | refine n0 ?_ | refine Wp.drawR (by decide +kernel) ?_ | refine Wp.drawSR [5, 9, 10, 11, 12, 17, 18] [false, false, false, false, false, true, false, false, false, true, true, true, true, false, false, false, false, true, true] (.op 5 [0,1,2,3,4,6,7,8,13,14,15,16] (.op 9 [0,1,2,3,4,13,14,15,16] (.op 10 [0,1,2,3,4,13,14,15,16] (.op 11 [13,14,15,16] (.op 12 [13,14,15,16] (.op 17 [] (.op 18 [] .done))))))) (by decide +kernel) ?_ | refine n1 ?_ | refine nilB_i fun b hb => ?_ | refine nPc (hia) ?_ | refine nPc (hd) ?_ | refine nP ?_ ?_ | refine nS fun K hK => ?_ | (refine n2 ?_ ?_ <;> intro h <;> first | subst (h : _ = true) | subst (h : _ = false) | (simp only [FX, LX, hx, hy, o8, e3, e5, e6, ByteArray.size_append] at h) | skip) | refine And.intro ?_ ?_ | refine nK ‹Imp _ _› ?_) | exact nl | fail
        all_goals (rw [textN, if_neg o1, if_neg o2, if_neg o7, if_pos o8, hit2])
        · rw [if_pos (.inl h)]
        · rw [if_pos (.inr h)]
        · rw [if_neg (by rintro (g | g) <;> contradiction)]
    · have k2 := hkt.2 (by omega)
      have ho := hkt.1 k2
      have ha := ka (by omega)
      have hb := kb (by omega)
      have hia := hin x.a.toNat (by omega)
      rw [show ((x.a.toNat : Nat) : Int) = x.a by omega] at hia
      have hib := hin x.b.toNat (by omega)
      rw [show ((x.b.toNat : Nat) : Int) = x.b by omega] at hib
      have hia3 := hsz x.a.toNat (by omega)
      have hib3 := hsz x.b.toNat (by omega)
      have hia4 : (inn l T x.a.toNat false).size ≤ (T.getD x.a.toNat ByteArray.empty).size + 2 := his x.a.toNat
      have hib4 : (inn l T x.b.toNat false).size ≤ (T.getD x.b.toNat ByteArray.empty).size + 2 := his x.b.toNat
      have e7 := signB_size x.op
      have sg := sign_at ho
      refine Den.pureI Tryz.func40 rfl 2 [.tmp 4] (by kernel_rfl) rfl rfl (by simp only [initE_nil, initE_cons, Nat.reduceAdd]; exact rfl) ?_
      repeat' first | (with_reducible first | refine nx' ?_ (by simp -implicitDefEqProofs (disch := omega) only [go_sem, hx, e4, e7, sg, ByteArray.size_append]; exact rfl) | refine n0 ?_ | refine Wp.drawR (by decide +kernel) ?_ | refine Wp.drawSR [5, 9, 10, 11, 12, 17, 18] [false, false, false, false, false, true, false, false, false, true, true, true, true, false, false, false, false, true, true] (.op 5 [0,1,2,3,4,6,7,8,13,14,15,16] (.op 9 [0,1,2,3,4,13,14,15,16] (.op 10 [0,1,2,3,4,13,14,15,16] (.op 11 [13,14,15,16] (.op 12 [13,14,15,16] (.op 17 [] (.op 18 [] .done))))))) (by decide +kernel) ?_ | refine n1 ?_ | refine nilB_i fun b hb => ?_ | refine nPc (hia) ?_ | refine nPc (hib) ?_ | refine nP ?_ ?_ | refine nS fun K hK => ?_ | (refine n2 ?_ ?_ <;> intro h <;> first | subst (h : _ = true) | subst (h : _ = false) | (simp only [FX, LX, hx, e4, e7, sg, ByteArray.size_append] at h) | skip) | refine And.intro ?_ ?_ | refine nK ‹Imp _ _› ?_) | exact nl | fail
      all_goals (rw [textN, if_neg o1, if_neg o2, if_neg (by omega), if_neg (by omega)])
theorem szE_le {l : List Nd} (h : ¬ szL 1048576 l.length < 0) : l.length ≤ 1048576 := by
  unfold szL at h
  split at h <;> omega
end Go.PL
