/- A plain machine, sound for the given model, and contracts of functions over it, part 48: EH. Nothing is assumed. -/
import Derived.Test.YtldgmfplnlnhcaaGreatG47
set_option linter.unusedSimpArgs false
set_option linter.unusedVariables false
set_option linter.unusedSectionVars false
/- EH -/
namespace Go.PL
open Go Go.Proofs
set_option maxRecDepth 10000
set_option maxHeartbeats 4000000
set_option linter.unusedSimpArgs false
set_option linter.unusedVariables false
theorem shp_keep {l : List Nd} {i : Nat} {bg dp : List Int} (h : shp l i = some (bg, dp)) : ∀ n bg' dp', i ≤ n → shp l n = some (bg', dp') → ∀ t, t < i → dp'.getD t 0 = dp.getD t 0
  | 0, bg', dp', hn, h', t, ht => by omega
  | n + 1, bg', dp', hn, h', t, ht => by
    by_cases e : i = n + 1
    · subst e; rw [h] at h'; cases h'; rfl
    · unfold shp at h'
      split at h'
      · cases h'
      · rename_i bg0 dp0 h0
        split at h'
        · cases h'
        · cases h'
          have hl := (shp_spec h0).ld
          rw [getD_app (by omega)]
          exact shp_keep h n _ _ (by omega) h0 t ht
theorem okE_none {l : List Nd} {i : Nat} (h : shp l i = none) (hi : i ≤ l.length) : okE l = false := by
  unfold okE; rw [shp_none h _ hi]; simp
theorem okE_big {l : List Nd} {i t : Nat} {bg dp : List Int} (h : shp l i = some (bg, dp)) (hi : i ≤ l.length) (ht : t < i) (hb : 12 < dp.getD t 0) : okE l = false := by
  unfold okE
  cases hs : shp l l.length with
  | none => simp
  | some q =>
    obtain ⟨bg', dp'⟩ := q
    have e := shp_keep h _ _ _ hi hs t ht
    have : decide (∀ t, t < l.length → dp'.getD t 0 ≤ 12) = false := by
      rw [decide_eq_false_iff_not]
      intro g
      have := g t (by omega)
      omega
    show (_ && (_ && decide _)) = false
    rw [this]; simp
theorem okE_fin {l : List Nd} {bg dp : List Int} (hn : 1 ≤ l.length ∧ l.length ≤ 60) (h : shp l l.length = some (bg, dp)) (hd : ∀ t, t < l.length → dp.getD t 0 ≤ 12) : okE l = decide (bg.getD (l.length - 1) 0 = 0) := by
  unfold okE; rw [h, decide_eq_true hn, Bool.true_and]
  show (_ && decide _) = _
  rw [decide_eq_true hd, Bool.and_true]
theorem getD_last {dp : List Int} {d : Int} {i : Nat} (h : dp.length = i) : (dp ++ [d]).getD i 0 = d := by subst h; simp [List.getD]
theorem le_app {dp : List Int} {d : Int} {i : Nat} (h : dp.length = i) (h12 : ∀ t, t < i → dp.getD t 0 ≤ 12) (hd : d ≤ 12) : ∀ t, t < i + 1 → (dp ++ [d]).getD t 0 ≤ 12 := by
  intro t ht
  by_cases e : t = i
  · rw [e, getD_last h]; exact hd
  · rw [getD_app (by omega)]; exact h12 t (by omega)
set_option maxHeartbeats 4000000 in
instance (l : List Nd) : Con CC 60 [.d (.agg [.sl (l.map encNd)])] (l.length ≤ 1048576) (.d (.b (okE l))) := by
  constructor; intro hl
  by_cases hn60 : ¬ (1 ≤ l.length ∧ l.length ≤ 60)
  · have hk : okE l = false := by unfold okE; rw [decide_eq_false hn60, Bool.false_and]
    refine Den.pureI Tryz.func60 rfl 1 [.tmp 2] (by kernel_rfl) rfl rfl (by simp only [initE_nil, initE_cons, Nat.reduceAdd]; exact rfl) ?_
    repeat' first | (with_reducible first | refine nx' ?_ | refine n0 ?_ | refine Wp.drawR (by decide +kernel) ?_ | refine Wp.drawSR [9, 13, 14] [false, false, false, false, false, false, false, false, false, true, false, false, false, true, true] (.op 9 [10,11,12] (.op 13 [] (.op 14 [] .done))) (by decide +kernel) ?_ | refine n1 ?_ | refine nilB_i fun b hb => ?_ | refine nP ?_ ?_ | refine nS fun K hK => ?_ | (refine n2 ?_ ?_ <;> intro h <;> first | subst (h : _ = true) | subst (h : _ = false) | skip) | refine And.intro ?_ ?_ | refine nK ‹Imp _ _› ?_) | exact nl | fail
    all_goals (rw [hk])
  have hn60 : 1 ≤ l.length ∧ l.length ≤ 60 := by omega
  obtain ⟨hn1, hn2⟩ := hn60
  refine Den.pureI Tryz.func60 rfl 1 [.tmp 2] (by kernel_rfl) rfl rfl (by simp only [initE_nil, initE_cons, Nat.reduceAdd]; exact rfl) ?_
  repeat' first | (with_reducible first | refine nx' ?_ | refine n0 ?_ | refine Wp.drawR (by decide +kernel) ?_ | refine Wp.drawSR [9, 13, 14] [false, false, false, false, false, false, false, false, false, true, false, false, false, true, true] (.op 9 [10,11,12] (.op 13 [] (.op 14 [] .done))) (by decide +kernel) ?_ | refine n1 ?_ | refine nilB_i fun b hb => ?_ | refine nP ?_ ?_ | refine nS fun K hK => ?_ | (refine n2 ?_ ?_ <;> intro h <;> first | subst (h : _ = true) | subst (h : _ = false) | skip) | refine And.intro ?_ ?_ | refine nK ‹Imp _ _› ?_) | exact nl | fail
  refine Wp.loopR (fun x : Nat × List Int => ⟨[(1, .ref 0 0 0), (3, .msl 1 0 x.2.length), (4, .d (.i x.1))], [.var [.d (.sl (l.map encNd))] false, .arr 1 (x.2.map .i) false]⟩) (fun x => l.length - x.1) (fun x => x.1 ≤ l.length ∧ (∃ bg, shp l x.1 = some (bg, x.2)) ∧ ∀ t, t < x.1 → x.2.getD t 0 ≤ 12) (0, []) Weak.lo ⟨by simp, ⟨[], rfl⟩, fun t ht => by omega⟩ ?_
  rintro ⟨i, dp⟩ ⟨hi, ⟨bg, hs⟩, h12⟩ K hK
  simp only at hi hs h12 ⊢
  obtain ⟨lb, ld, hat, hbb, hdb⟩ := shp_spec hs
  by_cases hil : i < l.length
  · have hsu := shp_succ hs
    have hkt := kids_two (l.getD i nd0).op
    have hko := kids_one (l.getD i nd0).op
    have hkb := kids_bnd (l.getD i nd0).op
    generalize hx : l.getD i nd0 = x at *
    by_cases hl5 : l05N x i = true
    · have hle : l05N ⟨x.op, x.a, x.b, x.n⟩ i = true := hl5
      by_cases k2 : kidsN x.op = 2
      · have ho := hkt.1 k2
        have hno : ¬ (x.op = 7 ∨ x.op = 8) := fun h => by have := hko.2 h; omega
        by_cases hbi : x.b = (i : Int) - 1
        · obtain ⟨hp, _⟩ := l05_plOk hl5 fun _ => hbi
          obtain ⟨ka, kb⟩ := plOk_kids hp
          have ha := ka (by omega)
          have hb := kb (by omega)
          have hf : CC 93 [.d (.agg [.sl (l.map encNd)]), .d (.i x.b)] [] (.d (.i (bg.getD x.b.toNat 0))) [] := by
            have := first_c l hl hs hi x.b.toNat (by omega)
            rw [show ((x.b.toNat : Nat) : Int) = x.b by omega] at this
            exact this
          have hb1 := hbb x.b.toNat (by omega)
          have hd1 := hdb x.a.toNat (by omega)
          have hd2 := hdb x.b.toNat (by omega)
          by_cases hfa : bg.getD x.b.toNat 0 = x.a + 1
          · have hn : nstep bg dp i x = some (bg.getD x.a.toNat 0, 1 + max (dp.getD x.a.toNat 0) (dp.getD x.b.toNat 0)) := by
              unfold nstep; rw [if_pos hp, if_neg (by omega), if_pos k2, if_pos ⟨hbi, by omega⟩, Int.add_comm 1]
            rw [hn] at hsu
            have hsu2 : shp l (i + 1) = some (_, _) := hsu
            repeat' first | (with_reducible first | refine nx' ?_ (by simp -implicitDefEqProofs (disch := omega) only [go_sem, hx, hle, ite_max]; exact rfl) | refine n0 ?_ | refine Wp.drawR (by decide +kernel) ?_ | refine Wp.drawSR [9, 13, 14] [false, false, false, false, false, false, false, false, false, true, false, false, false, true, true] (.op 9 [10,11,12] (.op 13 [] (.op 14 [] .done))) (by decide +kernel) ?_ | refine n1 ?_ | refine nilB_i fun b hb => ?_ | refine nPc (hf) ?_ | refine nP ?_ ?_ | refine nS fun K hK => ?_ | (refine n2 ?_ ?_ <;> intro h <;> first | subst (h : _ = true) | subst (h : _ = false) | (simp only [FX, LX, hx, hle, ite_max] at h) | skip) | refine And.intro ?_ ?_ | refine nK ‹Imp _ _› ?_) | exact nl | fail
            · rw [okE_big hsu2 (by omega) (Nat.lt_succ_self i) (by rw [getD_last ld]; omega)]
            · exact ⟨(i + 1, _), by simp only; omega, ⟨by simp only; omega, ⟨_, hsu2⟩, le_app ld h12 (by omega)⟩, Weak.cu⟩
          · have hn : nstep bg dp i x = none := by unfold nstep; rw [if_pos hp, if_neg (by omega), if_pos k2, if_neg (by omega)]
            rw [hn] at hsu
            have hz := okE_none hsu (by omega)
            repeat' first | (with_reducible first | refine nx' ?_ (by simp -implicitDefEqProofs (disch := omega) only [go_sem, hx, hle]; exact rfl) | refine n0 ?_ | refine Wp.drawR (by decide +kernel) ?_ | refine Wp.drawSR [9, 13, 14] [false, false, false, false, false, false, false, false, false, true, false, false, false, true, true] (.op 9 [10,11,12] (.op 13 [] (.op 14 [] .done))) (by decide +kernel) ?_ | refine n1 ?_ | refine nilB_i fun b hb => ?_ | refine nPc (hf) ?_ | refine nP ?_ ?_ | refine nS fun K hK => ?_ | (refine n2 ?_ ?_ <;> intro h <;> first | subst (h : _ = true) | subst (h : _ = false) | (simp only [FX, LX, hx, hle] at h) | skip) | refine And.intro ?_ ?_ | refine nK ‹Imp _ _› ?_) | exact nl | fail
            all_goals (rw [hz])
        · have hn : nstep bg dp i x = none := by
            unfold nstep
            by_cases hp : plOk x i = true
            · rw [if_pos hp, if_neg (by omega), if_pos k2, if_neg (by omega)]
            · rw [if_neg hp]
          rw [hn] at hsu
          have hz := okE_none hsu (by omega)
          repeat' first | (with_reducible first | refine nx' ?_ (by simp -implicitDefEqProofs (disch := omega) only [go_sem, hx, hle]; exact rfl) | refine n0 ?_ | refine Wp.drawR (by decide +kernel) ?_ | refine Wp.drawSR [9, 13, 14] [false, false, false, false, false, false, false, false, false, true, false, false, false, true, true] (.op 9 [10,11,12] (.op 13 [] (.op 14 [] .done))) (by decide +kernel) ?_ | refine n1 ?_ | refine nilB_i fun b hb => ?_ | refine nP ?_ ?_ | refine nS fun K hK => ?_ | (refine n2 ?_ ?_ <;> intro h <;> first | subst (h : _ = true) | subst (h : _ = false) | (simp only [FX, LX, hx, hle] at h) | skip) | refine And.intro ?_ ?_ | refine nK ‹Imp _ _› ?_) | exact nl | fail
          all_goals (rw [hz])
      · have hno2 : ¬ (3 ≤ x.op ∧ x.op ≤ 6) := fun h => by have := hkt.2 h; omega
        obtain ⟨hp, hp1⟩ := l05_plOk hl5 fun h => absurd h hno2
        obtain ⟨ka, kb⟩ := plOk_kids hp
        by_cases k1 : kidsN x.op = 1
        · have ho := hko.1 k1
          have ha := ka (by omega)
          have hd1 := hdb x.a.toNat (by omega)
          have hn : nstep bg dp i x = some (bg.getD x.a.toNat 0, 1 + dp.getD x.a.toNat 0) := by
            unfold nstep; rw [if_pos hp, if_pos k1, if_pos (hp1 k1), Int.add_comm 1]
          rw [hn] at hsu
          have hsu2 : shp l (i + 1) = some (_, _) := hsu
          repeat' first | (with_reducible first | refine nx' ?_ (by simp -implicitDefEqProofs (disch := omega) only [go_sem, hx, hle]; exact rfl) | refine n0 ?_ | refine Wp.drawR (by decide +kernel) ?_ | refine Wp.drawSR [9, 13, 14] [false, false, false, false, false, false, false, false, false, true, false, false, false, true, true] (.op 9 [10,11,12] (.op 13 [] (.op 14 [] .done))) (by decide +kernel) ?_ | refine n1 ?_ | refine nilB_i fun b hb => ?_ | refine nP ?_ ?_ | refine nS fun K hK => ?_ | (refine n2 ?_ ?_ <;> intro h <;> first | subst (h : _ = true) | subst (h : _ = false) | (simp only [FX, LX, hx, hle] at h) | skip) | refine And.intro ?_ ?_ | refine nK ‹Imp _ _› ?_) | exact nl | fail
          · rw [okE_big hsu2 (by omega) (Nat.lt_succ_self i) (by rw [getD_last ld]; omega)]
          · exact ⟨(i + 1, _), by simp only; omega, ⟨by simp only; omega, ⟨_, hsu2⟩, le_app ld h12 (by omega)⟩, Weak.cu⟩
        · have hno : ¬ (x.op = 7 ∨ x.op = 8) := fun h => by have := hko.2 h; omega
          have hn : nstep bg dp i x = some ((i : Int), 1) := by
            unfold nstep; rw [if_pos hp, if_neg k1, if_neg k2]
          rw [hn] at hsu
          have hsu2 : shp l (i + 1) = some (_, _) := hsu
          repeat' first | (with_reducible first | refine nx' ?_ (by simp -implicitDefEqProofs (disch := omega) only [go_sem, hx, hle]; exact rfl) | refine n0 ?_ | refine Wp.drawR (by decide +kernel) ?_ | refine Wp.drawSR [9, 13, 14] [false, false, false, false, false, false, false, false, false, true, false, false, false, true, true] (.op 9 [10,11,12] (.op 13 [] (.op 14 [] .done))) (by decide +kernel) ?_ | refine n1 ?_ | refine nilB_i fun b hb => ?_ | refine nP ?_ ?_ | refine nS fun K hK => ?_ | (refine n2 ?_ ?_ <;> intro h <;> first | subst (h : _ = true) | subst (h : _ = false) | (simp only [FX, LX, hx, hle] at h) | skip) | refine And.intro ?_ ?_ | refine nK ‹Imp _ _› ?_) | exact nl | fail
          all_goals exact ⟨(i + 1, _), by simp only; omega, ⟨by simp only; omega, ⟨_, hsu2⟩, le_app ld h12 (by omega)⟩, Weak.cu⟩
    · have hle : l05N ⟨x.op, x.a, x.b, x.n⟩ i = false := by simpa using hl5
      have hn : nstep bg dp i x = none := by
        cases hq : nstep bg dp i x with
        | none => rfl
        | some q =>
          exfalso
          obtain ⟨hp, q1, q2, _⟩ := nstep_inv (b := q.1) (d := q.2) hq
          refine hl5 (plOk_l05 hp (fun k => (q1 k).1) fun k => ?_)
          obtain ⟨r1, r2, _⟩ := q2 k
          obtain ⟨ka, kb⟩ := plOk_kids hp
          have := kb (by omega)
          have hb1 := hbb x.b.toNat (by omega)
          exact ⟨r1, by omega⟩
      rw [hn] at hsu
      have hz := okE_none hsu (by omega)
      repeat' first | (with_reducible first | refine nx' ?_ (by simp -implicitDefEqProofs (disch := omega) only [go_sem, hx, hle]; exact rfl) | refine n0 ?_ | refine Wp.drawR (by decide +kernel) ?_ | refine Wp.drawSR [9, 13, 14] [false, false, false, false, false, false, false, false, false, true, false, false, false, true, true] (.op 9 [10,11,12] (.op 13 [] (.op 14 [] .done))) (by decide +kernel) ?_ | refine n1 ?_ | refine nilB_i fun b hb => ?_ | refine nP ?_ ?_ | refine nS fun K hK => ?_ | (refine n2 ?_ ?_ <;> intro h <;> first | subst (h : _ = true) | subst (h : _ = false) | (simp only [FX, LX, hx, hle] at h) | skip) | refine And.intro ?_ ?_ | refine nK ‹Imp _ _› ?_) | exact nl | fail
      all_goals (rw [hz])
  · obtain rfl : i = l.length := by omega
    have hf : CC 93 [.d (.agg [.sl (l.map encNd)]), .d (.i ((l.length : Int) - 1))] [] (.d (.i (bg.getD (l.length - 1) 0))) [] := by
      have := first_c l hl hs (Nat.le_refl _) (l.length - 1) (by omega)
      rw [show ((l.length - 1 : Nat) : Int) = (l.length : Int) - 1 by omega] at this
      exact this
    have hz := okE_fin ⟨hn1, hn2⟩ hs h12
    repeat' first | (with_reducible first | refine nx' ?_ | refine n0 ?_ | refine Wp.drawR (by decide +kernel) ?_ | refine Wp.drawSR [9, 13, 14] [false, false, false, false, false, false, false, false, false, true, false, false, false, true, true] (.op 9 [10,11,12] (.op 13 [] (.op 14 [] .done))) (by decide +kernel) ?_ | refine n1 ?_ | refine nilB_i fun b hb => ?_ | refine nPc (hf) ?_ | refine nP ?_ ?_ | refine nS fun K hK => ?_ | (refine n2 ?_ ?_ <;> intro h <;> first | subst (h : _ = true) | subst (h : _ = false) | skip) | refine And.intro ?_ ?_ | refine nK ‹Imp _ _› ?_) | exact nl | fail
    rw [hz, beq_dec]
end Go.PL
