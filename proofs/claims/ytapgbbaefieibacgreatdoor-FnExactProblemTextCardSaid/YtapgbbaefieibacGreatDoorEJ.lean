/- A plain machine, sound for the given model, and contracts of functions over it, part 40: EJ. Nothing is assumed. -/
import Derived.Test.YtapgbbaefieibacGreatDoorG39
set_option linter.unusedSimpArgs false
set_option linter.unusedVariables false
set_option linter.unusedSectionVars false
/- EJ -/
namespace Go.PL
open Go Go.Proofs
set_option maxRecDepth 10000
set_option maxHeartbeats 4000000
set_option linter.unusedSimpArgs false
set_option linter.unusedVariables false
instance (o a b n : Int) : Con CC 99 [.d (.agg [.i o, .i a, .i b, .i n])] (3 ≤ o ∧ o ≤ 6) (.d (.s (signB o))) :=
  ⟨fun h => Den.ext ⟨rfl, rfl, .inr (.inr (.inr ⟨rfl, o, a, b, n, h.1, h.2, rfl, rfl⟩))⟩⟩
theorem inner_c (l : List Nd) (hl : l.length ≤ 1048576) (ts : List ByteArray) (ht : ts.length ≤ l.length) (k : Nat) (hk : k < ts.length) (hz : (ts.getD k e0).size ≤ 40960000000000) (pw : Bool) :
    CC 97 [.d (.i k), .d (.b pw), .d (.ptr [.sl (l.map encNd)]), .d (.ptr [.sl (ts.map .s)])] [] (.d (.s (inn l ts k pw))) [] := by
  have e1 : (ByteArray.mk #[40]).size = 1 := rfl
  have e2 : (ByteArray.mk #[41]).size = 1 := rfl
  have hkb := kids_bnd (l.getD k nd0).op
  have hz' : (ts.getD k ByteArray.empty).size ≤ 40960000000000 := hz
  refine Den.pureI Tryz.func97 rfl 4 [.tmp 6] (by kernel_rfl) rfl rfl (by simp only [initE_nil, initE_cons, Nat.reduceAdd]; exact rfl) ?_
  repeat' first | (with_reducible first | refine nx' ?_ (by simp -implicitDefEqProofs (disch := omega) only [go_sem, e1, e2, ByteArray.size_append]; exact rfl) | refine n0 ?_ | refine rD ?_ | refine n1 ?_ | refine nilB_i fun b hb => ?_ | refine nP ?_ ?_ | refine nS fun K hK => ?_ | (refine n2 ?_ ?_ <;> intro h <;> first | subst (h : _ = true) | subst (h : _ = false) | (simp only [FX, LX, e1, e2, ByteArray.size_append] at h) | skip) | refine And.intro ?_ ?_ | refine nK ‹Imp _ _› ?_) | exact nl | fail
  · rw [inn, if_pos (.inl h)]
  · rename_i h2; rw [inn, if_pos (.inr ⟨rfl, h⟩)]
  · rw [inn, if_neg (by rintro (g | ⟨_, g⟩) <;> contradiction)]
  · rw [inn, if_neg (by rintro (g | ⟨g, _⟩); contradiction; cases g)]
theorem kill_in (f : Fn) : kill 1 (mkFn f [] [.ref 0 0 0, .ref 2 0 0]) = mkFn f [] [.ref 0 0 0, .ref 2 0 0] := rfl
attribute [go_sem] kill_in
set_option maxHeartbeats 4000000 in
theorem printed_c (l : List Nd) {bg dp : List Int} (hl : l.length ≤ 60) (hs : shp l l.length = some (bg, dp)) (h12 : ∀ t, t < l.length → dp.getD t 0 ≤ 12) :
    CC 78 [.d (.sl (l.map encNd))] [] (.d (.sl ((texts l l.length).map .s))) [] := by
  obtain ⟨lb, ld, hat, hbb, hdb⟩ := shp_spec hs
  have e1 : (ByteArray.mk #[120]).size = 1 := rfl
  have e2 : (ByteArray.mk #[45]).size = 1 := rfl
  have e3 : (ByteArray.mk #[94]).size = 1 := rfl
  have e4 : (ByteArray.mk #[32]).size = 1 := rfl
  refine Den.pureI Tryz.func78 rfl 1 [.tmp 2] (by kernel_rfl) rfl rfl (by simp only [initE_nil, initE_cons, Nat.reduceAdd]; exact rfl) ?_
  repeat' first | (with_reducible first | refine nx' ?_ | refine n0 ?_ | refine Wp.drawR (by decide +kernel) ?_ | refine Wp.drawSR [] [false, false, false, false, false, false, false, false, false, false, false, false, false, false, false] .done (by decide +kernel) ?_ | refine n1 ?_ | refine nilB_i fun b hb => ?_ | refine nP ?_ ?_ | refine nS fun K hK => ?_ | (refine n2 ?_ ?_ <;> intro h <;> first | subst (h : _ = true) | subst (h : _ = false) | skip) | refine And.intro ?_ ?_ | refine nK ‹Imp _ _› ?_) | exact nl | fail
  refine Wp.loopR (fun x : Nat × List ByteArray => ⟨[(3, .ref 2 0 0), (4, mkFn (.func 97) [] [.ref 0 0 0, .ref 2 0 0]), (10, .d (.sl (l.map encNd))), (11, .d (.i l.length)), (12, .d (.i x.1))], [.var [.d (.sl (l.map encNd))] false, .arr 1 (x.2.map .s) false, .var [.msl 1 0 x.2.length] false]⟩) (fun x => l.length - x.1) (fun x => x.1 ≤ l.length ∧ x.2 = texts l x.1) (0, []) Weak.lo ⟨by simp, rfl⟩ ?_
  rintro ⟨i, ws⟩ ⟨hi, hw⟩ K hK
  simp only at hi hw ⊢
  have hlt : ws.length = i := by rw [hw, texts_len]
  have hsz := texts_fin hs h12 i hi
  rw [← hw] at hsz
  by_cases hil : i < l.length
  · have hnx : texts l (i + 1) = ws ++ [textN l ws (l.getD i nd0)] := by rw [texts, hw]
    obtain ⟨hp, q1, q2, q0⟩ := nstep_inv (hat i hil)
    obtain ⟨ka, kb⟩ := plOk_kids hp
    obtain ⟨hop, hn⟩ := plOk_num hp
    have hko := kids_one (l.getD i nd0).op
    have hkt := kids_two (l.getD i nd0).op
    generalize hx : l.getD i nd0 = x at *
    have hg := digB_size x.n.toNat
    have hit : itoaB x.n = digB x.n.toNat := by
      obtain ⟨m, hm⟩ : ∃ m : Nat, x.n = m := ⟨x.n.toNat, by omega⟩
      rw [hm]; exact itoaB_nat m
    by_cases o1 : x.op = 1
    · have h1 : texts l (i + 1) = ws ++ [digB x.n.toNat] := by rw [hnx, textN, if_pos o1]
      repeat' first | (with_reducible first | refine nx' ?_ (by simp -implicitDefEqProofs (disch := omega) only [go_sem, hx, hit, o1]; exact rfl) | refine n0 ?_ | refine Wp.drawR (by decide +kernel) ?_ | refine Wp.drawSR [] [false, false, false, false, false, false, false, false, false, false, false, false, false, false, false] .done (by decide +kernel) ?_ | refine n1 ?_ | refine nilB_i fun b hb => ?_ | refine nP ?_ ?_ | refine nS fun K hK => ?_ | (refine n2 ?_ ?_ <;> intro h <;> first | subst (h : _ = true) | subst (h : _ = false) | (simp only [FX, LX, hx, hit, o1] at h) | skip) | refine And.intro ?_ ?_ | refine nK ‹Imp _ _› ?_) | exact nl | fail
      all_goals exact ⟨(i + 1, ws ++ [digB x.n.toNat]), by simp only; omega, ⟨by simp only; omega, h1.symm⟩, Weak.cu⟩
    by_cases o2 : x.op = 2
    · have h1 : texts l (i + 1) = ws ++ [ByteArray.mk #[120] ++ digB x.n.toNat] := by rw [hnx, textN, if_neg o1, if_pos o2]
      repeat' first | (with_reducible first | refine nx' ?_ (by simp -implicitDefEqProofs (disch := omega) only [go_sem, hx, hit, o2, e1]; exact rfl) | refine n0 ?_ | refine Wp.drawR (by decide +kernel) ?_ | refine Wp.drawSR [] [false, false, false, false, false, false, false, false, false, false, false, false, false, false, false] .done (by decide +kernel) ?_ | refine n1 ?_ | refine nilB_i fun b hb => ?_ | refine nP ?_ ?_ | refine nS fun K hK => ?_ | (refine n2 ?_ ?_ <;> intro h <;> first | subst (h : _ = true) | subst (h : _ = false) | (simp only [FX, LX, hx, hit, o2, e1] at h) | skip) | refine And.intro ?_ ?_ | refine nK ‹Imp _ _› ?_) | exact nl | fail
      all_goals exact ⟨(i + 1, ws ++ [ByteArray.mk #[120] ++ digB x.n.toNat]), by simp only; omega, ⟨by simp only; omega, h1.symm⟩, Weak.cu⟩
    by_cases o78 : x.op = 7 ∨ x.op = 8
    · have ha := ka (by have := hko.2 o78; omega)
      have hc := fun pw => inner_c l (by omega) ws (by omega) x.a.toNat (by omega) (hsz _ (by omega)) pw
      have hcs := fun pw => inn_size l ws x.a.toNat pw
      have hz := hsz x.a.toNat (by omega)
      have ec : ((x.a.toNat : Nat) : Int) = x.a := by omega
      rw [ec] at hc
      have c0 := hc false
      have c1 := hc true
      have s0 := hcs false
      have s1 := hcs true
      by_cases o7 : x.op = 7
      · have h1 : texts l (i + 1) = ws ++ [ByteArray.mk #[45] ++ inn l ws x.a.toNat false] := by rw [hnx, textN, if_neg o1, if_neg o2, if_pos o7]
        repeat' first | (with_reducible first | refine nx' ?_ (by simp -implicitDefEqProofs (disch := omega) only [go_sem, hx, hit, o7, e2, e3, ByteArray.size_append]; exact rfl) | refine n0 ?_ | refine Wp.drawR (by decide +kernel) ?_ | refine Wp.drawSR [] [false, false, false, false, false, false, false, false, false, false, false, false, false, false, false] .done (by decide +kernel) ?_ | refine n1 ?_ | refine nilB_i fun b hb => ?_ | refine nPc (c0) ?_ | refine nPc (c1) ?_ | refine nP ?_ ?_ | refine nS fun K hK => ?_ | (refine n2 ?_ ?_ <;> intro h <;> first | subst (h : _ = true) | subst (h : _ = false) | (simp only [FX, LX, hx, hit, o7, e2, e3, ByteArray.size_append] at h) | skip) | refine And.intro ?_ ?_ | refine nK ‹Imp _ _› ?_) | exact nl | fail
        all_goals exact ⟨(i + 1, ws ++ [ByteArray.mk #[45] ++ inn l ws x.a.toNat false]), by simp only; omega, ⟨by simp only; omega, h1.symm⟩, Weak.cu⟩
      · have h1 : texts l (i + 1) = ws ++ [inn l ws x.a.toNat true ++ ByteArray.mk #[94] ++ digB x.n.toNat] := by rw [hnx, textN, if_neg o1, if_neg o2, if_neg o7, if_pos (by omega)]
        repeat' first | (with_reducible first | refine nx' ?_ (by simp -implicitDefEqProofs (disch := omega) only [go_sem, hx, hit, e2, e3, ByteArray.size_append]; exact rfl) | refine n0 ?_ | refine Wp.drawR (by decide +kernel) ?_ | refine Wp.drawSR [] [false, false, false, false, false, false, false, false, false, false, false, false, false, false, false] .done (by decide +kernel) ?_ | refine n1 ?_ | refine nilB_i fun b hb => ?_ | refine nPc (c0) ?_ | refine nPc (c1) ?_ | refine nP ?_ ?_ | refine nS fun K hK => ?_ | (refine n2 ?_ ?_ <;> intro h <;> first | subst (h : _ = true) | subst (h : _ = false) | (simp only [FX, LX, hx, hit, e2, e3, ByteArray.size_append] at h) | skip) | refine And.intro ?_ ?_ | refine nK ‹Imp _ _› ?_) | exact nl | fail
        all_goals exact ⟨(i + 1, ws ++ [inn l ws x.a.toNat true ++ ByteArray.mk #[94] ++ digB x.n.toNat]), by simp only; omega, ⟨by simp only; omega, h1.symm⟩, Weak.cu⟩
    · have k2 := hkt.2 (by omega)
      have ho := hkt.1 k2
      have ha := ka (by omega)
      have hb := kb (by omega)
      have hz := hsz x.a.toNat (by omega)
      have hz2 := hsz x.b.toNat (by omega)
      have c0 := inner_c l (by omega) ws (by omega) x.a.toNat (by omega) (hsz _ (by omega)) false
      have c1 := inner_c l (by omega) ws (by omega) x.b.toNat (by omega) (hsz _ (by omega)) false
      rw [show ((x.a.toNat : Nat) : Int) = x.a by omega] at c0
      rw [show ((x.b.toNat : Nat) : Int) = x.b by omega] at c1
      have s0 := inn_size l ws x.a.toNat false
      have s1 := inn_size l ws x.b.toNat false
      have e5 := signB_size x.op
      have h1 : texts l (i + 1) = ws ++ [inn l ws x.a.toNat false ++ ByteArray.mk #[32] ++ signB x.op ++ ByteArray.mk #[32] ++ inn l ws x.b.toNat false] := by
        rw [hnx, textN, if_neg o1, if_neg o2, if_neg (by omega), if_neg (by omega)]
      repeat' first | (with_reducible first | refine nx' ?_ (by simp -implicitDefEqProofs (disch := omega) only [go_sem, hx, hit, e4, e5, ByteArray.size_append]; exact rfl) | refine n0 ?_ | refine Wp.drawR (by decide +kernel) ?_ | refine Wp.drawSR [] [false, false, false, false, false, false, false, false, false, false, false, false, false, false, false] .done (by decide +kernel) ?_ | refine n1 ?_ | refine nilB_i fun b hb => ?_ | refine nPc (c0) ?_ | refine nPc (c1) ?_ | refine nP ?_ ?_ | refine nS fun K hK => ?_ | (refine n2 ?_ ?_ <;> intro h <;> first | subst (h : _ = true) | subst (h : _ = false) | (simp only [FX, LX, hx, hit, e4, e5, ByteArray.size_append] at h) | skip) | refine And.intro ?_ ?_ | refine nK ‹Imp _ _› ?_) | exact nl | fail
      all_goals exact ⟨(i + 1, ws ++ [inn l ws x.a.toNat false ++ ByteArray.mk #[32] ++ signB x.op ++ ByteArray.mk #[32] ++ inn l ws x.b.toNat false]), by simp only; omega, ⟨by simp only; omega, h1.symm⟩, Weak.cu⟩
  · obtain rfl : i = l.length := by omega
    repeat' first | (with_reducible first | refine nx' ?_ | refine n0 ?_ | refine Wp.drawR (by decide +kernel) ?_ | refine Wp.drawSR [] [false, false, false, false, false, false, false, false, false, false, false, false, false, false, false] .done (by decide +kernel) ?_ | refine n1 ?_ | refine nilB_i fun b hb => ?_ | refine nP ?_ ?_ | refine nS fun K hK => ?_ | (refine n2 ?_ ?_ <;> intro h <;> first | subst (h : _ = true) | subst (h : _ = false) | skip) | refine And.intro ?_ ?_ | refine nK ‹Imp _ _› ?_) | exact nl | fail
    rw [hw]
end Go.PL
