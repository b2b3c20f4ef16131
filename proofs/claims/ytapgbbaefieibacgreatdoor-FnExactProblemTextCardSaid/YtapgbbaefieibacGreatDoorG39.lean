/- A plain machine, sound for the given model, and contracts of functions over it, part 39: EH EI. Nothing is assumed. -/
import Derived.Test.YtapgbbaefieibacGreatDoorG38
set_option linter.unusedSimpArgs false
set_option linter.unusedVariables false
set_option linter.unusedSectionVars false
/- EH -/
namespace Go.PL
open Go Go.Proofs
set_option maxRecDepth 10000
set_option maxHeartbeats 4000000
set_option linter.unusedSimpArgs false
set_option linter.unusedVariables false
theorem shp_keep {l : List Nd} {i : Nat} {bg dp : List Int} (h : shp l i = some (bg, dp)) : ∀ n bg' dp', i ≤ n → shp l n = some (bg', dp') → ∀ t, t < i → dp'.getD t 0 = dp.getD t 0
  | 0, bg', dp', hn, h', t, ht => by omega
  | n + 1, bg', dp', hn, h', t, ht => by
    by_cases e : i = n + 1
    · subst e; rw [h] at h'; cases h'; rfl
    · unfold shp at h'
      split at h'
      · cases h'
      · rename_i bg0 dp0 h0
        split at h'
        · cases h'
        · cases h'
          have hl := (shp_spec h0).ld
          rw [getD_app (by omega)]
          exact shp_keep h n _ _ (by omega) h0 t ht
theorem okE_none {l : List Nd} {i : Nat} (h : shp l i = none) (hi : i ≤ l.length) : okE l = false := by
  unfold okE; rw [shp_none h _ hi]; simp
theorem okE_big {l : List Nd} {i t : Nat} {bg dp : List Int} (h : shp l i = some (bg, dp)) (hi : i ≤ l.length) (ht : t < i) (hb : 12 < dp.getD t 0) : okE l = false := by
  unfold okE
  cases hs : shp l l.length with
  | none => simp
  | some q =>
    obtain ⟨bg', dp'⟩ := q
    have e := shp_keep h _ _ _ hi hs t ht
    have : decide (∀ t, t < l.length → dp'.getD t 0 ≤ 12) = false := by
      rw [decide_eq_false_iff_not]
      intro g
      have := g t (by omega)
      omega
    show (_ && (_ && decide _)) = false
    rw [this]; simp
theorem okE_fin {l : List Nd} {bg dp : List Int} (hn : 1 ≤ l.length ∧ l.length ≤ 60) (h : shp l l.length = some (bg, dp)) (hd : ∀ t, t < l.length → dp.getD t 0 ≤ 12) : okE l = decide (bg.getD (l.length - 1) 0 = 0) := by
  unfold okE; rw [h, decide_eq_true hn, Bool.true_and]
  show (_ && decide _) = _
  rw [decide_eq_true hd, Bool.and_true]
theorem getD_last {dp : List Int} {d : Int} {i : Nat} (h : dp.length = i) : (dp ++ [d]).getD i 0 = d := by subst h; simp [List.getD]
theorem le_app {dp : List Int} {d : Int} {i : Nat} (h : dp.length = i) (h12 : ∀ t, t < i → dp.getD t 0 ≤ 12) (hd : d ≤ 12) : ∀ t, t < i + 1 → (dp ++ [d]).getD t 0 ≤ 12 := by
  intro t ht
  by_cases e : t = i
  · rw [e, getD_last h]; exact hd
  · rw [getD_app (by omega)]; exact h12 t (by omega)
set_option maxHeartbeats 4000000 in
instance (l : List Nd) : Con CC 32 [.d (.agg [.sl (l.map encNd)])] (l.length ≤ 1048576) (.d (.b (okE l))) := by
  constructor; intro hl
  by_cases hn60 : ¬ (1 ≤ l.length ∧ l.length ≤ 60)
  · have hk : okE l = false := by unfold okE; rw [decide_eq_false hn60, Bool.false_and]
    refine Den.pureI Tryz.func32 rfl 1 [.tmp 2] (by kernel_rfl) rfl rfl (by simp only [initE_nil, initE_cons, Nat.reduceAdd]; exact rfl) ?_
    repeat' first | (with_reducible first | refine nx' ?_ | refine n0 ?_ | refine Wp.drawR (by decide +kernel) ?_ | refine Wp.drawSR [9, 13, 14] [false, false, false, false, false, false, false, false, false, true, false, false, false, true, true] (.op 9 [10,11,12] (.op 13 [] (.op 14 [] .done))) (by decide +kernel) ?_ | refine n1 ?_ | refine nilB_i fun b hb => ?_ | refine nP ?_ ?_ | refine nS fun K hK => ?_ | (refine n2 ?_ ?_ <;> intro h <;> first | subst (h : _ = true) | subst (h : _ = false) | skip) | refine And.intro ?_ ?_ | refine nK ‹Imp _ _› ?_) | exact nl | fail
    all_goals (rw [hk])
  have hn60 : 1 ≤ l.length ∧ l.length ≤ 60 := by omega
  obtain ⟨hn1, hn2⟩ := hn60
  refine Den.pureI Tryz.func32 rfl 1 [.tmp 2] (by kernel_rfl) rfl rfl (by simp only [initE_nil, initE_cons, Nat.reduceAdd]; exact rfl) ?_
  repeat' first | (with_reducible first | refine nx' ?_ | refine n0 ?_ | refine Wp.drawR (by decide +kernel) ?_ | refine Wp.drawSR [9, 13, 14] [false, false, false, false, false, false, false, false, false, true, false, false, false, true, true] (.op 9 [10,11,12] (.op 13 [] (.op 14 [] .done))) (by decide +kernel) ?_ | refine n1 ?_ | refine nilB_i fun b hb => ?_ | refine nP ?_ ?_ | refine nS fun K hK => ?_ | (refine n2 ?_ ?_ <;> intro h <;> first | subst (h : _ = true) | subst (h : _ = false) | skip) | refine And.intro ?_ ?_ | refine nK ‹Imp _ _› ?_) | exact nl | fail
  refine Wp.loopR (fun x : Nat × List Int => ⟨[(1, .ref 0 0 0), (3, .msl 1 0 x.2.length), (4, .d (.i x.1))], [.var [.d (.sl (l.map encNd))] false, .arr 1 (x.2.map .i) false]⟩) (fun x => l.length - x.1) (fun x => x.1 ≤ l.length ∧ (∃ bg, shp l x.1 = some (bg, x.2)) ∧ ∀ t, t < x.1 → x.2.getD t 0 ≤ 12) (0, []) Weak.lo ⟨by simp, ⟨[], rfl⟩, fun t ht => by omega⟩ ?_
  rintro ⟨i, dp⟩ ⟨hi, ⟨bg, hs⟩, h12⟩ K hK
  simp only at hi hs h12 ⊢
  obtain ⟨lb, ld, hat, hbb, hdb⟩ := shp_spec hs
  by_cases hil : i < l.length
  · have hsu := shp_succ hs
    have hkt := kids_two (l.getD i nd0).op
    have hko := kids_one (l.getD i nd0).op
    have hkb := kids_bnd (l.getD i nd0).op
    generalize hx : l.getD i nd0 = x at *
    by_cases hl5 : l05N x i = true
    · have hle : l05N ⟨x.op, x.a, x.b, x.n⟩ i = true := hl5
      by_cases k2 : kidsN x.op = 2
      · have ho := hkt.1 k2
        have hno : ¬ (x.op = 7 ∨ x.op = 8) := fun h => by have := hko.2 h; omega
        by_cases hbi : x.b = (i : Int) - 1
        · obtain ⟨hp, _⟩ := l05_plOk hl5 fun _ => hbi
          obtain ⟨ka, kb⟩ := plOk_kids hp
          have ha := ka (by omega)
          have hb := kb (by omega)
          have hf : CC 60 [.d (.agg [.sl (l.map encNd)]), .d (.i x.b)] [] (.d (.i (bg.getD x.b.toNat 0))) [] := by
            have := first_c l hl hs hi x.b.toNat (by omega)
            rw [show ((x.b.toNat : Nat) : Int) = x.b by omega] at this
            exact this
          have hb1 := hbb x.b.toNat (by omega)
          have hd1 := hdb x.a.toNat (by omega)
          have hd2 := hdb x.b.toNat (by omega)
          by_cases hfa : bg.getD x.b.toNat 0 = x.a + 1
          · have hn : nstep bg dp i x = some (bg.getD x.a.toNat 0, 1 + max (dp.getD x.a.toNat 0) (dp.getD x.b.toNat 0)) := by
              unfold nstep; rw [if_pos hp, if_neg (by omega), if_pos k2, if_pos ⟨hbi, by omega⟩, Int.add_comm 1]
            rw [hn] at hsu
            have hsu2 : shp l (i + 1) = some (_, _) := hsu
            repeat' first | (with_reducible first | refine nx' ?_ (by simp -implicitDefEqProofs (disch := omega) only [go_sem, hx, hle, ite_max]; exact rfl) | refine n0 ?_ | refine Wp.drawR (by decide +kernel) ?_ | refine Wp.drawSR [9, 13, 14] [false, false, false, false, false, false, false, false, false, true, false, false, false, true, true] (.op 9 [10,11,12] (.op 13 [] (.op 14 [] .done))) (by decide +kernel) ?_ | refine n1 ?_ | refine nilB_i fun b hb => ?_ | refine nPc (hf) ?_ | refine nP ?_ ?_ | refine nS fun K hK => ?_ | (refine n2 ?_ ?_ <;> intro h <;> first | subst (h : _ = true) | subst (h : _ = false) | (simp only [FX, LX, hx, hle, ite_max] at h) | skip) | refine And.intro ?_ ?_ | refine nK ‹Imp _ _› ?_) | exact nl | fail
            · rw [okE_big hsu2 (by omega) (Nat.lt_succ_self i) (by rw [getD_last ld]; omega)]
            · exact ⟨(i + 1, _), by simp only; omega, ⟨by simp only; omega, ⟨_, hsu2⟩, le_app ld h12 (by omega)⟩, Weak.cu⟩
          · have hn : nstep bg dp i x = none := by unfold nstep; rw [if_pos hp, if_neg (by omega), if_pos k2, if_neg (by omega)]
            rw [hn] at hsu
            have hz := okE_none hsu (by omega)
            repeat' first | (with_reducible first | refine nx' ?_ (by simp -implicitDefEqProofs (disch := omega) only [go_sem, hx, hle]; exact rfl) | refine n0 ?_ | refine Wp.drawR (by decide +kernel) ?_ | refine Wp.drawSR [9, 13, 14] [false, false, false, false, false, false, false, false, false, true, false, false, false, true, true] (.op 9 [10,11,12] (.op 13 [] (.op 14 [] .done))) (by decide +kernel) ?_ | refine n1 ?_ | refine nilB_i fun b hb => ?_ | refine nPc (hf) ?_ | refine nP ?_ ?_ | refine nS fun K hK => ?_ | (refine n2 ?_ ?_ <;> intro h <;> first | subst (h : _ = true) | subst (h : _ = false) | (simp only [FX, LX, hx, hle] at h) | skip) | refine And.intro ?_ ?_ | refine nK ‹Imp _ _› ?_) | exact nl | fail
            all_goals (rw [hz])
        · have hn : nstep bg dp i x = none := by
            unfold nstep
            by_cases hp : plOk x i = true
            · rw [if_pos hp, if_neg (by omega), if_pos k2, if_neg (by omega)]
            · rw [if_neg hp]
          rw [hn] at hsu
          have hz := okE_none hsu (by omega)
          repeat' first | (with_reducible first | refine nx' ?_ (by simp -implicitDefEqProofs (disch := omega) only [go_sem, hx, hle]; exact rfl) | refine n0 ?_ | refine Wp.drawR (by decide +kernel) ?_ | refine Wp.drawSR [9, 13, 14] [false, false, false, false, false, false, false, false, false, true, false, false, false, true, true] (.op 9 [10,11,12] (.op 13 [] (.op 14 [] .done))) (by decide +kernel) ?_ | refine n1 ?_ | refine nilB_i fun b hb => ?_ | refine nP ?_ ?_ | refine nS fun K hK => ?_ | (refine n2 ?_ ?_ <;> intro h <;> first | subst (h : _ = true) | subst (h : _ = false) | (simp only [FX, LX, hx, hle] at h) | skip) | refine And.intro ?_ ?_ | refine nK ‹Imp _ _› ?_) | exact nl | fail
          all_goals (rw [hz])
      · have hno2 : ¬ (3 ≤ x.op ∧ x.op ≤ 6) := fun h => by have := hkt.2 h; omega
        obtain ⟨hp, hp1⟩ := l05_plOk hl5 fun h => absurd h hno2
        obtain ⟨ka, kb⟩ := plOk_kids hp
        by_cases k1 : kidsN x.op = 1
        · have ho := hko.1 k1
          have ha := ka (by omega)
          have hd1 := hdb x.a.toNat (by omega)
          have hn : nstep bg dp i x = some (bg.getD x.a.toNat 0, 1 + dp.getD x.a.toNat 0) := by
            unfold nstep; rw [if_pos hp, if_pos k1, if_pos (hp1 k1), Int.add_comm 1]
          rw [hn] at hsu
          have hsu2 : shp l (i + 1) = some (_, _) := hsu
          repeat' first | (with_reducible first | refine nx' ?_ (by simp -implicitDefEqProofs (disch := omega) only [go_sem, hx, hle]; exact rfl) | refine n0 ?_ | refine Wp.drawR (by decide +kernel) ?_ | refine Wp.drawSR [9, 13, 14] [false, false, false, false, false, false, false, false, false, true, false, false, false, true, true] (.op 9 [10,11,12] (.op 13 [] (.op 14 [] .done))) (by decide +kernel) ?_ | refine n1 ?_ | refine nilB_i fun b hb => ?_ | refine nP ?_ ?_ | refine nS fun K hK => ?_ | (refine n2 ?_ ?_ <;> intro h <;> first | subst (h : _ = true) | subst (h : _ = false) | (simp only [FX, LX, hx, hle] at h) | skip) | refine And.intro ?_ ?_ | refine nK ‹Imp _ _› ?_) | exact nl | fail
          · rw [okE_big hsu2 (by omega) (Nat.lt_succ_self i) (by rw [getD_last ld]; omega)]
          · exact ⟨(i + 1, _), by simp only; omega, ⟨by simp only; omega, ⟨_, hsu2⟩, le_app ld h12 (by omega)⟩, Weak.cu⟩
        · have hno : ¬ (x.op = 7 ∨ x.op = 8) := fun h => by have := hko.2 h; omega
          have hn : nstep bg dp i x = some ((i : Int), 1) := by
            unfold nstep; rw [if_pos hp, if_neg k1, if_neg k2]
          rw [hn] at hsu
          have hsu2 : shp l (i + 1) = some (_, _) := hsu
          repeat' first | (with_reducible first | refine nx' ?_ (by simp -implicitDefEqProofs (disch := omega) only [go_sem, hx, hle]; exact rfl) | refine n0 ?_ | refine Wp.drawR (by decide +kernel) ?_ | refine Wp.drawSR [9, 13, 14] [false, false, false, false, false, false, false, false, false, true, false, false, false, true, true] (.op 9 [10,11,12] (.op 13 [] (.op 14 [] .done))) (by decide +kernel) ?_ | refine n1 ?_ | refine nilB_i fun b hb => ?_ | refine nP ?_ ?_ | refine nS fun K hK => ?_ | (refine n2 ?_ ?_ <;> intro h <;> first | subst (h : _ = true) | subst (h : _ = false) | (simp only [FX, LX, hx, hle] at h) | skip) | refine And.intro ?_ ?_ | refine nK ‹Imp _ _› ?_) | exact nl | fail
          all_goals exact ⟨(i + 1, _), by simp only; omega, ⟨by simp only; omega, ⟨_, hsu2⟩, le_app ld h12 (by omega)⟩, Weak.cu⟩
    · have hle : l05N ⟨x.op, x.a, x.b, x.n⟩ i = false := by simpa using hl5
      have hn : nstep bg dp i x = none := by
        cases hq : nstep bg dp i x with
        | none => rfl
        | some q =>
          exfalso
          obtain ⟨hp, q1, q2, _⟩ := nstep_inv (b := q.1) (d := q.2) hq
          refine hl5 (plOk_l05 hp (fun k => (q1 k).1) fun k => ?_)
          obtain ⟨r1, r2, _⟩ := q2 k
          obtain ⟨ka, kb⟩ := plOk_kids hp
          have := kb (by omega)
          have hb1 := hbb x.b.toNat (by omega)
          exact ⟨r1, by omega⟩
      rw [hn] at hsu
      have hz := okE_none hsu (by omega)
      repeat' first | (with_reducible first | refine nx' ?_ (by simp -implicitDefEqProofs (disch := omega) only [go_sem, hx, hle]; exact rfl) | refine n0 ?_ | refine Wp.drawR (by decide +kernel) ?_ | refine Wp.drawSR [9, 13, 14] [false, false, false, false, false, false, false, false, false, true, false, false, false, true, true] (.op 9 [10,11,12] (.op 13 [] (.op 14 [] .done))) (by decide +kernel) ?_ | refine n1 ?_ | refine nilB_i fun b hb => ?_ | refine nP ?_ ?_ | refine nS fun K hK => ?_ | (refine n2 ?_ ?_ <;> intro h <;> first | subst (h : _ = true) | subst (h : _ = false) | (simp only [FX, LX, hx, hle] at h) | skip) | refine And.intro ?_ ?_ | refine nK ‹Imp _ _› ?_) | exact nl | fail
      all_goals (rw [hz])
  · obtain rfl : i = l.length := by omega
    have hf : CC 60 [.d (.agg [.sl (l.map encNd)]), .d (.i ((l.length : Int) - 1))] [] (.d (.i (bg.getD (l.length - 1) 0))) [] := by
      have := first_c l hl hs (Nat.le_refl _) (l.length - 1) (by omega)
      rw [show ((l.length - 1 : Nat) : Int) = (l.length : Int) - 1 by omega] at this
      exact this
    have hz := okE_fin ⟨hn1, hn2⟩ hs h12
    repeat' first | (with_reducible first | refine nx' ?_ | refine n0 ?_ | refine Wp.drawR (by decide +kernel) ?_ | refine Wp.drawSR [9, 13, 14] [false, false, false, false, false, false, false, false, false, true, false, false, false, true, true] (.op 9 [10,11,12] (.op 13 [] (.op 14 [] .done))) (by decide +kernel) ?_ | refine n1 ?_ | refine nilB_i fun b hb => ?_ | refine nPc (hf) ?_ | refine nP ?_ ?_ | refine nS fun K hK => ?_ | (refine n2 ?_ ?_ <;> intro h <;> first | subst (h : _ = true) | subst (h : _ = false) | skip) | refine And.intro ?_ ?_ | refine nK ‹Imp _ _› ?_) | exact nl | fail
    rw [hz, beq_dec]
end Go.PL

/- EI -/
namespace Go.PL
open Go Go.Proofs
set_option maxRecDepth 10000
set_option maxHeartbeats 4000000
set_option linter.unusedSimpArgs false
set_option linter.unusedVariables false
abbrev e0 : ByteArray := ByteArray.empty
/-- A part's text within another. -/
def inn (l : List Nd) (ts : List ByteArray) (k : Nat) (pw : Bool) : ByteArray :=
  if kidsN (l.getD k nd0).op = 2 ∨ (pw = true ∧ kidsN (l.getD k nd0).op = 1) then ByteArray.mk #[40] ++ ts.getD k e0 ++ ByteArray.mk #[41] else ts.getD k e0
/-- A node's text, from those before it. -/
def textN (l : List Nd) (ts : List ByteArray) (x : Nd) : ByteArray :=
  if x.op = 1 then digB x.n.toNat
  else if x.op = 2 then ByteArray.mk #[120] ++ digB x.n.toNat
  else if x.op = 7 then ByteArray.mk #[45] ++ inn l ts x.a.toNat false
  else if x.op = 8 then inn l ts x.a.toNat true ++ ByteArray.mk #[94] ++ digB x.n.toNat
  else inn l ts x.a.toNat false ++ ByteArray.mk #[32] ++ signB x.op ++ ByteArray.mk #[32] ++ inn l ts x.b.toNat false
def texts (l : List Nd) : Nat → List ByteArray
  | 0 => []
  | i + 1 => texts l i ++ [textN l (texts l i) (l.getD i nd0)]
theorem texts_len (l : List Nd) : ∀ i, (texts l i).length = i
  | 0 => rfl
  | i + 1 => by rw [texts, List.length_append, texts_len l i]; rfl
theorem getD_appB {a b : List ByteArray} {k : Nat} (h : k < a.length) : (a ++ b).getD k e0 = a.getD k e0 := by
  simp [List.getD, List.getElem?_append_left h]
theorem texts_pre (l : List Nd) {i k : Nat} (hk : k < i) : ∀ n, i ≤ n → (texts l n).getD k e0 = (texts l i).getD k e0
  | 0, hn => by omega
  | n + 1, hn => by
    by_cases e : i = n + 1
    · rw [e]
    · rw [texts, getD_appB (by rw [texts_len]; omega)]
      exact texts_pre l hk n (by omega)
theorem texts_last (l : List Nd) (i : Nat) : (texts l (i + 1)).getD i e0 = textN l (texts l i) (l.getD i nd0) := by
  have := texts_len l i
  rw [texts]
  simp [List.getD, this]
theorem inn_size (l : List Nd) (ts : List ByteArray) (k : Nat) (pw : Bool) : (inn l ts k pw).size ≤ (ts.getD k e0).size + 2 := by
  have e1 : (ByteArray.mk #[40]).size = 1 := rfl
  have e2 : (ByteArray.mk #[41]).size = 1 := rfl
  unfold inn; split
  · rw [ByteArray.size_append, ByteArray.size_append]; omega
  · omega
theorem signB_size (o : Int) : (signB o).size = 1 := by unfold signB; (repeat' split) <;> rfl
theorem numOk_bnd {o n : Int} (h : numOk o n = true) : 0 ≤ n ∧ n ≤ 999999999 := by
  unfold numOk at h
  (repeat' split at h) <;> simp only [decide_eq_true_eq] at h <;> omega
theorem plOk_num {x : Nd} {p : Int} (h : plOk x p = true) : (1 ≤ x.op ∧ x.op ≤ 8) ∧ 0 ≤ x.n ∧ x.n ≤ 999999999 := by
  unfold plOk at h
  simp only [Bool.and_eq_true, decide_eq_true_eq] at h
  exact ⟨h.1.1.1, numOk_bnd h.1.1.2⟩
theorem texts_sz {l : List Nd} {n : Nat} {bg dp : List Int} (hs : shp l n = some (bg, dp)) : ∀ i, i ≤ n → ∀ j, j < i → ((texts l i).getD j e0).size + 10000000000 ≤ 10000000000 * 2 ^ (dp.getD j 0).toNat
  | 0, _, j, hj => by omega
  | i + 1, hi, j, hj => by
    obtain ⟨lb, ld, hat, hbb, hdb⟩ := shp_spec hs
    have ih := texts_sz hs i (by omega)
    by_cases e : j = i
    · subst e
      rw [texts_last]
      obtain ⟨hp, q1, q2, q0⟩ := nstep_inv (hat j (by omega))
      obtain ⟨ka, kb⟩ := plOk_kids hp
      obtain ⟨hop, hn⟩ := plOk_num hp
      have hko := kids_one (l.getD j nd0).op
      have hkt := kids_two (l.getD j nd0).op
      generalize hx : l.getD j nd0 = x at *
      have hg := digB_size x.n.toNat
      have i1 := inn_size l (texts l j) x.a.toNat false
      have i2 := inn_size l (texts l j) x.a.toNat true
      have i3 := inn_size l (texts l j) x.b.toNat false
      have e1 : (ByteArray.mk #[120]).size = 1 := rfl
      have e2 : (ByteArray.mk #[45]).size = 1 := rfl
      have e3 : (ByteArray.mk #[94]).size = 1 := rfl
      have e4 : (ByteArray.mk #[32]).size = 1 := rfl
      have e5 := signB_size x.op
      have hd := hdb j (by omega)
      have p1 : 1 ≤ 2 ^ (dp.getD j 0).toNat := Nat.one_le_two_pow
      have p2 : 2 ≤ 2 ^ (dp.getD j 0).toNat := by
        have : 2 ^ 1 ≤ 2 ^ (dp.getD j 0).toNat := Nat.pow_le_pow_right (by omega) (by omega)
        omega
      unfold textN
      by_cases o1 : x.op = 1
      · rw [if_pos o1]; omega
      by_cases o2 : x.op = 2
      · rw [if_neg o1, if_pos o2, ByteArray.size_append]; omega
      by_cases o78 : x.op = 7 ∨ x.op = 8
      · obtain ⟨r1, r2, r3⟩ := q1 (hko.2 o78)
        have ha := ka (by have := hko.2 o78; omega)
        have iha := ih x.a.toNat (by omega)
        have hda := hdb x.a.toNat (by omega)
        have pe : 2 ^ (dp.getD j 0).toNat = 2 * 2 ^ (dp.getD x.a.toNat 0).toNat := by
          rw [show (dp.getD j 0).toNat = (dp.getD x.a.toNat 0).toNat + 1 by omega, Nat.pow_succ, Nat.mul_comm]
        rw [pe]
        by_cases o7 : x.op = 7
        · rw [if_neg o1, if_neg o2, if_pos o7, ByteArray.size_append]; omega
        · rw [if_neg o1, if_neg o2, if_neg o7, if_pos (by omega), ByteArray.size_append, ByteArray.size_append]; omega
      · have k2 := hkt.2 (by omega)
        obtain ⟨r1, r2, r3, r4⟩ := q2 k2
        have ha := ka (by omega)
        have hb := kb (by omega)
        have iha := ih x.a.toNat (by omega)
        have ihb := ih x.b.toNat (by omega)
        have hda := hdb x.a.toNat (by omega)
        have hdb2 := hdb x.b.toNat (by omega)
        have pa : 2 ^ (dp.getD x.a.toNat 0).toNat ≤ 2 ^ ((dp.getD j 0).toNat - 1) := Nat.pow_le_pow_right (by omega) (by omega)
        have pb : 2 ^ (dp.getD x.b.toNat 0).toNat ≤ 2 ^ ((dp.getD j 0).toNat - 1) := Nat.pow_le_pow_right (by omega) (by omega)
        have pe : 2 ^ (dp.getD j 0).toNat = 2 * 2 ^ ((dp.getD j 0).toNat - 1) := by
          rw [show (dp.getD j 0).toNat = ((dp.getD j 0).toNat - 1) + 1 by omega, Nat.pow_succ, Nat.mul_comm]; rfl
        rw [pe, if_neg o1, if_neg o2, if_neg (by omega), if_neg (by omega)]
        simp only [ByteArray.size_append]
        omega
    · rw [texts, getD_appB (by rw [texts_len]; omega)]
      exact ih j (by omega)
theorem texts_fin {l : List Nd} {n : Nat} {bg dp : List Int} (hs : shp l n = some (bg, dp)) (hd : ∀ t, t < n → dp.getD t 0 ≤ 12) (i : Nat) (hi : i ≤ n) (j : Nat) (hj : j < i) : ((texts l i).getD j e0).size ≤ 40960000000000 := by
  have h1 := texts_sz hs i hi j hj
  have h2 := hd j (by omega)
  have h3 : 2 ^ (dp.getD j 0).toNat ≤ 2 ^ 12 := Nat.pow_le_pow_right (by omega) (by omega)
  omega
theorem texts_eq {l : List Nd} {n : Nat} {bg dp : List Int} (hs : shp l n = some (bg, dp)) {j : Nat} (hj : j < n) : (texts l n).getD j e0 = textN l (texts l n) (l.getD j nd0) := by
  obtain ⟨lb, ld, hat, hbb, hdb⟩ := shp_spec hs
  obtain ⟨hp, q1, q2, q0⟩ := nstep_inv (hat j hj)
  obtain ⟨ka, kb⟩ := plOk_kids hp
  obtain ⟨hop, hn⟩ := plOk_num hp
  have hko := kids_one (l.getD j nd0).op
  have hkt := kids_two (l.getD j nd0).op
  rw [texts_pre l (Nat.lt_succ_self j) n (by omega), texts_last]
  have key : ∀ k pw, k < j → inn l (texts l n) k pw = inn l (texts l j) k pw := fun k pw hk => by
    unfold inn; rw [texts_pre l hk n (by omega)]
  unfold textN
  by_cases o1 : (l.getD j nd0).op = 1
  · rw [if_pos o1, if_pos o1]
  by_cases o2 : (l.getD j nd0).op = 2
  · rw [if_neg o1, if_pos o2, if_neg o1, if_pos o2]
  have hk : 0 < kidsN (l.getD j nd0).op := by
    by_cases o78 : (l.getD j nd0).op = 7 ∨ (l.getD j nd0).op = 8
    · have := hko.2 o78; omega
    · have := hkt.2 (by omega); omega
  have ha := ka hk
  rw [key _ _ (by omega), key _ _ (by omega)]
  by_cases o7 : (l.getD j nd0).op = 7
  · simp only [if_neg o1, if_neg o2, if_pos o7]
  by_cases o8 : (l.getD j nd0).op = 8
  · simp only [if_neg o1, if_neg o2, if_neg o7, if_pos o8]
  have hb := kb (by have := hkt.2 (by omega); omega)
  rw [key _ _ (by omega)]
end Go.PL
