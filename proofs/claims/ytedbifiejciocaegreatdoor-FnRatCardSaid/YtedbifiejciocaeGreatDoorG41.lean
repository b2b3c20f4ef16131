/- A plain machine, sound for the given model, and contracts of functions over it, part 41: FR2 RDB. Nothing is assumed. -/
import Derived.Test.YtedbifiejciocaeGreatDoorG40
set_option linter.unusedSimpArgs false
set_option linter.unusedVariables false
set_option linter.unusedSectionVars false
/- FR2 -/
namespace Go.PL
open Go Go.Proofs
set_option maxRecDepth 10000
set_option maxHeartbeats 4000000
set_option linter.unusedSimpArgs false
set_option linter.unusedVariables false
theorem wide_ok {l : List Int} {b : Nat} {σ : Src} (h : SOk l b σ) (hb : b + 200 ≤ 1000000000000) :
    okRat ⟨(wideF l σ).1.neg, digs (wideF l σ).1.n, digs (wideF l σ).1.d⟩ = true ∧ (digs (wideF l σ).1.n).length ≤ 4 ∧ (digs (wideF l σ).1.d).length ≤ 4 := by
  obtain ⟨a1, a2, a3⟩ := natF_ok h (by omega)
  have a4 := natN_len h (by omega)
  obtain ⟨b1, b2, b3⟩ := nexF_ok (n := 2) a3 (by omega)
  have c4 := natN_len b3 (by omega)
  have hd1 : (digs 1).length = 1 := by rw [digs_one]; rfl
  unfold wideF
  simp only
  generalize hd : (if natN l σ = 0 then 1 else natN l σ) = d
  have hd0 : 0 < d := by rw [← hd]; split <;> omega
  have hdl : (digs d).length ≤ 4 := by rw [← hd]; split <;> omega
  obtain ⟨l1, l2, l3⟩ := mkQ_len (b := (nexF l 2 (natF l σ).2).1 == 2 - 1) (L := 4) c4 hdl hd0
  exact ⟨okRat_mk hd0 (by omega) (by omega), l1, l2⟩
theorem wh_ok {a b : Int} (ha : a.natAbs ≤ 1000000) (hb : b.natAbs ≤ 1000000) (h0 : b ≠ 0) :
    okRat ⟨(divQ (whQ a) (whQ b)).neg, digs (divQ (whQ a) (whQ b)).n, digs (divQ (whQ a) (whQ b)).d⟩ = true ∧ (digs (divQ (whQ a) (whQ b)).n).length ≤ 4 ∧ (digs (divQ (whQ a) (whQ b)).d).length ≤ 4 ∧ 0 < (divQ (whQ a) (whQ b)).d := by
  rw [div_wh]
  have h1 := digs3 (n := a.natAbs) (by omega)
  have h2 := digs3 (n := b.natAbs) (by omega)
  obtain ⟨l1, l2, l3⟩ := mkQ_len (b := decide (a < 0) != decide (b < 0)) (L := 4) (m := a.natAbs) (n := b.natAbs) (by omega) (by omega) (by omega)
  exact ⟨okRat_mk (by omega) (by omega) (by omega), l1, l2, l3⟩
set_option maxHeartbeats 8000000 in
instance (l r : List Int) : Con CC 3 [.d (encB l), .d (encB r)] ((Byt l ∧ l.length < 4611686018427387904) ∧ Byt r ∧ r.length < 4611686018427387904) (.d (.b true)) := by
  constructor; intro ⟨⟨hb, hl0⟩, hc, hr0⟩
  by_cases hl : 1048576 < l.length
  · refine Den.pureI Tryz.func3 rfl 2 [.tmp 4] (by kernel_rfl) rfl rfl (by simp only [initE_nil, initE_cons, Nat.reduceAdd]; exact rfl) ?_
    repeat' first | (with_reducible first | refine nx' ?_ | refine n0 ?_ | refine rD ?_ | refine n1 ?_ | refine nilB_i fun b hb => ?_ | refine nP ?_ ?_ | refine nS fun K hK => ?_ | (refine n2 ?_ ?_ <;> intro h <;> first | subst (h : _ = true) | subst (h : _ = false) | skip) | refine And.intro ?_ ?_ | refine nK ‹Imp _ _› ?_) | exact nl | fail
  by_cases hr : 1048576 < r.length
  · refine Den.pureI Tryz.func3 rfl 2 [.tmp 4] (by kernel_rfl) rfl rfl (by simp only [initE_nil, initE_cons, Nat.reduceAdd]; exact rfl) ?_
    repeat' first | (with_reducible first | refine nx' ?_ | refine n0 ?_ | refine rD ?_ | refine n1 ?_ | refine nilB_i fun b hb => ?_ | refine nP ?_ ?_ | refine nS fun K hK => ?_ | (refine n2 ?_ ?_ <;> intro h <;> first | subst (h : _ = true) | subst (h : _ = false) | skip) | refine And.intro ?_ ?_ | refine nK ‹Imp _ _› ?_) | exact nl | fail
  have hS : SOk l 1000 (0, (l.length : Int) % 1000) := ⟨hb, by omega, by simp, by omega, by simp only; omega, by simp only; omega⟩
  obtain ⟨k1, k2, k3⟩ := wide_ok hS (by omega)
  have cW : CC 4 [.d (encB l)] [] (.d (encQ (wideF l (0, (l.length : Int) % 1000)).1)) [] := Con.ok (C := CC) ⟨hb, by omega⟩
  generalize (wideF l (0, (l.length : Int) % 1000)).1 = q at *
  obtain ⟨t1, t2⟩ := rd_text k1 (by omega) (by omega)
  have htb : ratTB ⟨q.neg, digs q.n, digs q.d⟩ = strT (ratL q.neg q.n q.d) := by
    refine bsT_inj ?_
    rw [ratTB_bs]; rfl
  have hts : (ratL q.neg q.n q.d).length ≤ 400 := by
    have := ratTB_size k1
    rw [htb, strT_size] at this; exact this
  generalize ratL q.neg q.n q.d = T at *
  obtain ⟨e1, e2, ⟨q1, q2, q3, q4, q5, q6⟩, hR⟩ := ReadRat_yes T (by omega) (by omega) t1
  rw [t2] at q1 q2 q3 q4 hR
  simp only at q1 q2 q3 q4 hR
  obtain ⟨z0, z1⟩ := atF_bnd (l := r) (i := 0) (n := 400) (by omega)
  obtain ⟨w0, w1⟩ := atF_bnd (l := r) (i := 1) (n := 50) (by omega)
  have cZ : CC 8 [.d (encB r), .d (.i 0), .d (.i 400)] [] (.d (.i (atF r 0 400))) [] := Con.ok (C := CC) ⟨hc, by omega, by omega, by omega, by omega, by omega⟩
  have cY : CC 8 [.d (encB r), .d (.i 1), .d (.i 50)] [] (.d (.i (atF r 1 50))) [] := Con.ok (C := CC) ⟨hc, by omega, by omega, by omega, by omega, by omega⟩
  generalize atF r 0 400 = z at *
  generalize atF r 1 50 = w at *
  obtain ⟨y1, y2, y3, y4⟩ := wh_ok (a := z - 200) (b := 1 + w) (by omega) (by omega) (by omega)
  obtain ⟨u1, u2, u3, u4⟩ := wh_ok (a := 1 + w) (b := 1) (by omega) (by omega) (by omega)
  obtain ⟨v1, v2, v3, v4⟩ := wh_ok (a := z - 200) (b := 1) (by omega) (by omega) (by omega)
  have hf1 : divQ (whQ ((0 - (z - 200)) * 3)) (whQ ((0 - (1 + w)) * 3)) = divQ (whQ (z - 200)) (whQ (1 + w)) := by
    rw [Int.zero_sub, Int.zero_sub]; exact frat_1 _ _ (by omega)
  have hf2 := frat_2 (z - 200) (1 + w) (by omega)
  refine Den.pureI Tryz.func3 rfl 2 [.tmp 4] (by kernel_rfl) rfl rfl (by simp only [initE_nil, initE_cons, Nat.reduceAdd]; exact rfl) ?_
  repeat' first | (with_reducible first | refine nx' ?_ (by simp -implicitDefEqProofs (disch := omega) only [go_sem, k1, htb, q1, q2, hf1, hf2]; exact rfl) | refine n0 ?_ | refine rD ?_ | refine n1 ?_ | refine nilB_i fun b hb => ?_ | refine nPc (cW) ?_ | refine nPn (hR) ?_ | refine nPc (cZ) ?_ | refine nPc (cY) ?_ | refine nP ?_ ?_ | refine nS fun K hK => ?_ | (refine n2 ?_ ?_ <;> intro h <;> first | subst (h : _ = true) | subst (h : _ = false) | (simp only [FX, LX, k1, htb, q1, q2, hf1, hf2] at h) | skip) | refine And.intro ?_ ?_ | refine nK ‹Imp _ _› ?_) | exact nl | fail
  all_goals first
    | (constructor <;> first | (show (digs q.n).length ≤ _; omega) | (show (digs q.d).length ≤ _; omega))
    | (simp; done)
    | exact absurd trivial h
    | (simp at h; done)
end Go.PL

/- RDB -/
namespace Go.PL
open Go Go.Proofs
theorem Rd.u8 {H : Type} {enc : TypeId × Value → H} {P : Program} {w : World} {t : TypeId} (ht : P.underlying t = some (.int .u8)) : Rd enc P w t (fun n : Int => [u8D n]) (fun n => 0 ≤ n ∧ n < 256) := by
  intro fuel cs x h _
  obtain ⟨n, rfl, _, hw⟩ := DataW.trod_int ht h
  refine ⟨n, ?_, .one (.val _)⟩
  simp only [Lit.wf, Bool.and_eq_true, decide_eq_true_eq] at hw
  have e1 : IntKind.u8.min = 0 := rfl
  have e2 : IntKind.u8.max = 255 := rfl
  omega
set_option maxRecDepth 10000 in
set_option linter.constructorNameAsVariable false in
theorem bytesArg.argV {H : Type} {enc : TypeId × Value → H} {w : World} {base : Nat} {v : Value} {d : DataW H} {ps : List MemPlace} (ht : Tryz.prog.underlying 22 = some (.slice 5)) (hv : Value.okWide Tryz.prog w .any base 22 v)
    (hx : DataW.Trod enc Tryz.prog w 0 (fun _ => true) true 22 v d ps) (hw : ∀ k ∈ d.weights Tryz.prog 22, k ≤ reachBytes) : ∃ l : List Int, (Byt l ∧ l.length < 4611686018427387904) ∧ RelD w (PrW w) (encB l) v := by
  obtain ⟨fuel, hx⟩ := hx
  obtain ⟨l, ⟨h1, h2⟩, h3⟩ := (Rd.slice (sz := 1) (by_ := 1) u8D ht (by kernel_rfl) (by kernel_rfl) (Nat.lt_succ_self 0) (fun _ => rfl) (fun _ => rfl) (Rd.u8 Tryz.underlying5)) fuel _ _ hx hw
  refine ⟨l, ⟨fun x hx => h2 x hx, by unfold reachBytes at h1; omega⟩, ?_⟩
  have hc : v.cells.toList = [v] := by
    unfold Value.okWide at hv
    rw [ht] at hv
    simp only at hv
    cases v with
    | agg cs =>
      exfalso
      unfold Cell.okWide at hv
      rw [ht] at hv
      unfold Cell.ok at hv
      rw [ht] at hv
      simp at hv
    | _ => rfl
  have h4 := h3.rel 0 (by simp) (by rw [hc]; simp)
  have e1 : ∀ (u u' : Value), u = u' → RelD w (PrW w) (encB l) u → RelD w (PrW w) (encB l) u' := fun _ _ q r => q ▸ r
  exact e1 _ _ (by simp [hc]) h4
end Go.PL
