/- A plain machine, sound for the given model, and contracts of functions over it, part 32: AH SRa SRb0 FL. Nothing is assumed. -/
import Derived.Test.YtapgbbaefieibacGreatDoorA6
import Derived.Test.YtapgbbaefieibacGreatDoorAD
import Derived.Test.YtapgbbaefieibacGreatDoorG30
import Derived.Test.YtapgbbaefieibacGreatDoorG31
set_option linter.unusedSimpArgs false
set_option linter.unusedVariables false
set_option linter.unusedSectionVars false
/- AH -/
namespace Go.PL
open Go Go.Proofs
set_option maxRecDepth 10000
set_option maxHeartbeats 4000000
set_option linter.unusedSimpArgs false
set_option linter.unusedVariables false
def toQ (r : Rt) : Q := ⟨r.neg, (val r.num).toNat, (val r.den).toNat⟩
theorem okRat_toQ {r : Rt} (h : okRat r = true) : r.num = digs (toQ r).n ∧ r.den = digs (toQ r).d ∧ lenQ 40 (toQ r) := by
  unfold okRat at h
  simp only [Bool.and_eq_true, Bool.not_eq_true'] at h
  obtain ⟨m, h1, h2⟩ := okNat_digs (a := r.num) (by simp_all)
  obtain ⟨n, h3, h4⟩ := okNat_digs (a := r.den) (by simp_all)
  have e1 : (toQ r).n = m := by unfold toQ; simp only; rw [h1, val_digs]; rfl
  have e2 : (toQ r).d = n := by unfold toQ; simp only; rw [h3, val_digs]; rfl
  refine ⟨by rw [e1]; exact h1, by rw [e2]; exact h3, by rw [e1]; exact h2, by rw [e2]; exact h4, ?_⟩
  rw [e2]
  rcases Nat.eq_zero_or_pos n with e | e
  · exfalso
    rw [e, digs_zero] at h3
    simp_all
  · exact e
def dropAt (l : List Rc) (t : Nat) : Prop := cmpQ (toQ (l.getD (t + 1) rc0).f) (toQ (l.getD t rc0).f) < 0
instance (l : List Rc) (t : Nat) : Decidable (dropAt l t) := by unfold dropAt; infer_instance
def dropsR (l : List Rc) : Bool := decide (∀ t, t < l.length - 1 → dropAt l t)
theorem lenQ.mono {L M : Nat} {q : Q} (h : lenQ L q) (hM : L ≤ M) : lenQ M q := ⟨Nat.le_trans h.1 hM, Nat.le_trans h.2.1 hM, h.2.2⟩
theorem dropsR_not {l : List Rc} {i : Nat} (hi : i + 1 < l.length) (h : ¬dropAt l i) : dropsR l = false := by
  unfold dropsR; rw [decide_eq_false_iff_not]; exact fun hh => h (hh i (by omega))
theorem dropsR_all {l : List Rc} (h : ∀ t, t < l.length - 1 → dropAt l t) : dropsR l = true := by
  unfold dropsR; rw [decide_eq_true_eq]; exact h
theorem okRp_rats {a : Int} {l : List Rc} (h : okRp ⟨a, l⟩ = true) : ∀ t, t < l.length → okRat (l.getD t rc0).f = true := by
  intro t ht
  unfold okRp at h
  rw [decide_eq_true_eq] at h
  have h1 := (h.2.2.2 t ht).1
  unfold okRc at h1
  simp only [Bool.and_eq_true] at h1
  exact h1.2
end Go.PL

/- SRa -/
namespace Go.PL
open Go Go.Proofs
set_option maxRecDepth 10000
set_option maxHeartbeats 4000000
set_option linter.unusedSimpArgs false
set_option linter.unusedVariables false
/-- The words of a record's text. -/
def recW (r : Rc) : List (List UInt8) := [[97, 116], Lib.decDigits r.iter.toNat, [104, 97, 108, 118, 101, 100], Lib.decDigits r.count.toNat, [118, 97, 108, 117, 101], bsT (ratTB r.f), [112, 111, 105, 110, 116]] ++ r.x.map fun q => bsT (ratTB q)
theorem bsT_join (ws : List ByteArray) : bsT (joinB ws spB) = joinS 32 (ws.map bsT) := by
  show (Lib.join (ws.map bsT) [32]) = _
  exact joinS_eq 32 _
theorem recTB_bs {r : Rc} (h : r.x ≠ []) : bsT (recTB r) = joinS 32 (recW r) := by
  unfold recTB recW vecTB
  rw [joinS_app (by simp) (by simpa using h)]
  simp only [bsT_app, bsT_join, bsT_digB, List.map_map]
  simp [joinS, tailS, bsT, Function.comp_def]
theorem recW_free {r : Rc} (h : okRc r = true) : ∀ w ∈ recW r, (32 : UInt8) ∉ w := by
  obtain ⟨_, hx, hf⟩ := okRc_parts h
  obtain ⟨_, hv⟩ := okVec_parts hx
  intro w hw
  unfold recW at hw
  simp only [List.cons_append, List.nil_append, List.mem_cons, List.mem_map] at hw
  rcases hw with rfl | rfl | rfl | rfl | rfl | rfl | rfl | ⟨q, hq, rfl⟩
  · decide
  · exact dec_free _ 32 (.inl (by decide))
  · decide
  · exact dec_free _ 32 (.inl (by decide))
  · decide
  · exact ratTB_free hf
  · decide
  · exact ratTB_free (hv q hq)
theorem map_inj_on {α β : Type} {f : α → β} : ∀ {l m : List α}, (∀ a ∈ l, ∀ b ∈ m, f a = f b → a = b) → l.map f = m.map f → l = m
  | [], [], _, _ => rfl
  | [], y :: s, _, h => by simp at h
  | x :: r, [], _, h => by simp at h
  | x :: r, y :: s, hf, h => by
    simp only [List.map_cons, List.cons.injEq] at h
    rw [hf x (by simp) y (by simp) h.1, map_inj_on (fun a ha b hb => hf a (by simp [ha]) b (by simp [hb])) h.2]
theorem okVec_ne {l : List Rt} (h : okVec l = true) : l ≠ [] := by
  rintro rfl; unfold okVec at h; simp at h
theorem recTB_inj {r s : Rc} (hr : okRc r = true) (hs : okRc s = true) (h : recTB r = recTB s) : r = s := by
  obtain ⟨⟨m, n, a1, a2, _, _⟩, hx, hf⟩ := okRc_parts hr
  obtain ⟨⟨u, v, b1, b2, _, _⟩, hy, hg⟩ := okRc_parts hs
  obtain ⟨_, hxv⟩ := okVec_parts hx
  obtain ⟨_, hyv⟩ := okVec_parts hy
  have h2 := congrArg bsT h
  rw [recTB_bs (okVec_ne hx), recTB_bs (okVec_ne hy)] at h2
  have h3 := joinS_inj (by simp [recW]) (by simp [recW]) (recW_free hr) (recW_free hs) h2
  unfold recW at h3
  simp only [List.cons_append, List.nil_append, List.cons.injEq, true_and] at h3
  obtain ⟨q1, q2, q3, q4⟩ := h3
  have e1 := dec_inj q1
  have e2 := dec_inj q2
  have e3 := ratTB_inj hf hg (bsT_inj q3)
  have e4 := map_inj_on (fun a ha b hb hab => ratTB_inj (hxv a ha) (hyv b hb) (bsT_inj hab)) q4
  obtain ⟨i1, c1, x1, f1⟩ := r
  obtain ⟨i2, c2, x2, f2⟩ := s
  simp only at a1 a2 b1 b2 e1 e2 e3 e4 ⊢
  have : i1 = i2 := by omega
  have : c1 = c2 := by omega
  subst_vars; rfl
/-- A report's lines. -/
def stT : ByteArray := ⟨#[115, 116, 97, 116, 117, 115, 32]⟩
def linR (r : Rp) : List ByteArray := r.recs.map recTB ++ [stT ++ stW.getD r.status.toNat ByteArray.empty]
theorem okRp_parts {r : Rp} (h : okRp r = true) : 1 ≤ r.status ∧ r.status ≤ 6 ∧ r.recs.length ≤ 7 ∧ ∀ x ∈ r.recs, okRc x = true := by
  unfold okRp at h
  rw [decide_eq_true_eq] at h
  refine ⟨h.1, h.2.1, h.2.2.1, fun x hx => ?_⟩
  obtain ⟨i, hi, rfl⟩ := List.getElem_of_mem hx
  have := (h.2.2.2 i hi).1
  simpa only [List.getD, List.getElem?_eq_getElem hi, Option.getD_some] using this
theorem stW_inj {a b : Int} (ha : 1 ≤ a ∧ a ≤ 6) (hb : 1 ≤ b ∧ b ≤ 6) (h : stW.getD a.toNat ByteArray.empty = stW.getD b.toNat ByteArray.empty) : a = b := by
  have h2 := congrArg bsT h
  have ca : a = 1 ∨ a = 2 ∨ a = 3 ∨ a = 4 ∨ a = 5 ∨ a = 6 := by omega
  have cb : b = 1 ∨ b = 2 ∨ b = 3 ∨ b = 4 ∨ b = 5 ∨ b = 6 := by omega
  rcases ca with rfl | rfl | rfl | rfl | rfl | rfl <;> rcases cb with rfl | rfl | rfl | rfl | rfl | rfl <;> first | rfl | (exfalso; revert h2; decide)
theorem linR_inj {r s : Rp} (hr : okRp r = true) (hs : okRp s = true) (h : linR r = linR s) : r = s := by
  obtain ⟨a1, a2, a3, a4⟩ := okRp_parts hr
  obtain ⟨b1, b2, b3, b4⟩ := okRp_parts hs
  unfold linR at h
  obtain ⟨h1, h2⟩ := List.append_inj' h rfl
  have e1 := map_inj_on (fun a ha b hb hab => recTB_inj (a4 a ha) (b4 b hb) hab) h1
  simp only [List.cons.injEq, and_true] at h2
  have h3 := congrArg bsT h2
  rw [bsT_app, bsT_app] at h3
  have e2 := stW_inj ⟨a1, a2⟩ ⟨b1, b2⟩ (bsT_inj (List.append_cancel_left h3))
  obtain ⟨i1, l1⟩ := r
  obtain ⟨i2, l2⟩ := s
  simp only at e1 e2
  subst e1; subst e2; rfl
theorem stW_size (k : Nat) : (stW.getD k ByteArray.empty).size ≤ 6 := by
  rcases k with _ | _ | _ | _ | _ | _ | _ | k
  all_goals first | decide | (simp [stW])
theorem recTB_size {r : Rc} (h : okRc r = true) : (recTB r).size ≤ 2100 := by
  obtain ⟨⟨m, n, hm, hn, hm6, hn30⟩, hx, hf⟩ := okRc_parts h
  have s1 := digB_size m
  have s2 := digB_size n
  have s3 := ratTB_size hf
  have s4 := vecTB_size hx
  have e1 : (ByteArray.mk #[97, 116, 32]).size = 3 := rfl
  have e2 : (ByteArray.mk #[32, 104, 97, 108, 118, 101, 100, 32]).size = 8 := rfl
  have e3 : (ByteArray.mk #[32, 118, 97, 108, 117, 101, 32]).size = 7 := rfl
  have e4 : (ByteArray.mk #[32, 112, 111, 105, 110, 116, 32]).size = 7 := rfl
  unfold recTB
  rw [hm, hn]
  simp only [ByteArray.size_append, Int.toNat_natCast]
  omega
end Go.PL

/- SRb0 -/
namespace Go.PL
open Go Go.Proofs
set_option maxRecDepth 10000
set_option maxHeartbeats 4000000
set_option linter.unusedSimpArgs false
set_option linter.unusedVariables false
theorem cmpQ_zero {r s : Rt} (hr : okRat r = true) (hs : okRat s = true) : cmpQ (toQ r) (toQ s) = 0 ↔ r = s := by
  obtain ⟨m, n, e1, g1, p1, z1, _, _⟩ := okRat_form hr
  obtain ⟨u, v, e2, g2, p2, z2, _, _⟩ := okRat_form hs
  constructor
  · intro h
    have t1 : toQ r = ⟨r.neg, m, n⟩ := by rw [e1]; simp [toQ, val_digs]
    have t2 : toQ s = ⟨s.neg, u, v⟩ := by rw [e2]; simp [toQ, val_digs]
    rw [t1, t2] at h
    unfold cmpQ at h
    rw [Int.sign_eq_zero_iff_zero] at h
    simp only at h
    have hk : m * v = u * n := by
      unfold sg at h
      generalize m * v = p at *
      generalize u * n = q at *
      revert h; cases r.neg <;> cases s.neg <;> simp <;> omega
    have hd : n = v := by
      refine Nat.dvd_antisymm ?_ ?_
      · exact (Nat.Coprime.dvd_of_dvd_mul_left (k := n) (m := m) (n := v) (by rw [Nat.coprime_comm]; exact g1) ⟨u, by rw [hk, Nat.mul_comm]⟩)
      · exact (Nat.Coprime.dvd_of_dvd_mul_left (k := v) (m := u) (n := n) (by rw [Nat.coprime_comm]; exact g2) ⟨m, by rw [← hk, Nat.mul_comm]⟩)
    have hm : m = u := by rw [hd] at hk; exact Nat.eq_of_mul_eq_mul_right (by omega) hk
    have hn : r.neg = s.neg := by
      rw [← hm, ← hd] at h
      rcases Nat.eq_zero_or_pos m with e | e
      · rw [z1 e, z2 (by omega)]
      · have hp := Nat.mul_pos e p1
        unfold sg at h
        generalize m * n = p at *
        revert h; cases r.neg <;> cases s.neg <;> simp <;> omega
    rw [e1, e2, hn, hm, hd]
  · rintro rfl
    unfold cmpQ; simp
theorem bV_bnd {l : List Rt} (h : okVec l = true) : l.length ≤ 4 := (okVec_parts h).1
theorem cmpS_c {r s : Rt} (hr : okRat r = true) (hs : okRat s = true) : CC 39 [.d (encR r), .d (encR s)] [] (.d (.i (cmpQ (toQ r) (toQ s)))) [] := by
  obtain ⟨p1, p2, p3⟩ := okRat_toQ hr
  obtain ⟨q1, q2, q3⟩ := okRat_toQ hs
  have e1 : encR r = .agg [.b (toQ r).neg, encD (digs (toQ r).n), encD (digs (toQ r).d)] := by rw [← p1, ← p2]; rfl
  have e2 : encR s = .agg [.b (toQ s).neg, encD (digs (toQ s).n), encD (digs (toQ s).d)] := by rw [← q1, ← q2]; rfl
  rw [e1, e2]
  exact Con.ok (C := CC) ⟨p3.mono (by omega), q3.mono (by omega)⟩
end Go.PL

/- FL -/
namespace Go.PL
open Go Go.Proofs
set_option maxRecDepth 10000
set_option maxHeartbeats 4000000
set_option linter.unusedSimpArgs false
set_option linter.unusedVariables false
def firstI : List Int → Int
  | [] => 0
  | c :: r => if c = 0 then firstI r else c
theorem firstI_at : ∀ (l : List Int) (i : Nat), i < l.length → (∀ t, t < i → l.getD t 0 = 0) → l.getD i 0 ≠ 0 → firstI l = l.getD i 0
  | [], i, h, _, _ => by simp at h
  | c :: r, 0, _, _, h => by simp only [firstI]; rw [if_neg (by simpa using h)]; rfl
  | c :: r, i + 1, h, hn, hp => by
    have h0 : c = 0 := by simpa using hn 0 (by omega)
    simp only [firstI]
    rw [if_pos h0, firstI_at r i (by simpa using h) (fun t ht => by simpa using hn (t + 1) (by omega)) (by simpa using hp)]; simp
theorem firstI_none : ∀ (l : List Int), (∀ t, t < l.length → l.getD t 0 = 0) → firstI l = 0
  | [], _ => rfl
  | c :: r, h => by
    have h0 : c = 0 := by simpa using h 0 (by simp)
    simp only [firstI]
    rw [if_pos h0, firstI_none r fun t ht => by simpa using h (t + 1) (by simpa using ht)]
def longI (most : Int) (l : List Int) : Int := if l.any fun n => decide (most < n) then 2 else 0
theorem longI_at {most : Int} {l : List Int} {i : Nat} (h : i < l.length) (hp : most < l.getD i 0) : longI most l = 2 := by
  unfold longI; rw [if_pos]; rw [List.any_eq_true]; exact ⟨_, getD_mem 0 h, by simpa using hp⟩
theorem longI_none {most : Int} {l : List Int} (h : ∀ t, t < l.length → l.getD t 0 ≤ most) : longI most l = 0 := by
  unfold longI; rw [if_neg]; rw [List.any_eq_true]; rintro ⟨x, hx, hp⟩
  obtain ⟨i, hi, rfl⟩ := List.getElem_of_mem hx
  have := h i hi
  simp only [List.getD, List.getElem?_eq_getElem hi, Option.getD_some] at this
  simp only [decide_eq_true_eq] at hp
  omega
instance (most : Int) (l : List Int) : Con CC 118 [.d (.i most), .d (.sl (l.map .i))] (l.length ≤ 1048576) (.d (.i (longI most l))) := by
  constructor; intro hl
  refine Den.pureI Tryz.func118 rfl 2 [.tmp 4] (by kernel_rfl) rfl rfl (by simp only [initE_nil, initE_cons, Nat.reduceAdd]; exact rfl) ?_
  repeat' first | (with_reducible first | refine nx' ?_ | refine n0 ?_ | refine rD ?_ | refine n1 ?_ | refine nilB_i fun b hb => ?_ | refine nP ?_ ?_ | refine nS fun K hK => ?_ | (refine n2 ?_ ?_ <;> intro h <;> first | subst (h : _ = true) | subst (h : _ = false) | skip) | refine And.intro ?_ ?_ | refine nK ‹Imp _ _› ?_) | exact nl | fail
  refine Wp.loopR (fun i : Nat => ⟨[(0, .d (.i most)), (7, .d (.sl (l.map .i))), (8, .d (.i l.length)), (9, .d (.i i))], []⟩) (fun i => l.length - i) (fun i => i ≤ l.length ∧ ∀ t, t < i → l.getD t 0 ≤ most) 0 Weak.lo ⟨by simp, by intro t ht; omega⟩ ?_
  rintro i ⟨hi, hd⟩ K hK
  repeat' first | (with_reducible first | refine nx' ?_ | refine n0 ?_ | refine rD ?_ | refine n1 ?_ | refine nilB_i fun b hb => ?_ | refine nP ?_ ?_ | refine nS fun K hK => ?_ | (refine n2 ?_ ?_ <;> intro h <;> first | subst (h : _ = true) | subst (h : _ = false) | skip) | refine And.intro ?_ ?_ | refine nK ‹Imp _ _› ?_) | exact nl | fail
  · rw [longI_at (by omega) h]
  · exact ⟨i + 1, by omega, ⟨by omega, fun t ht => by rcases (show t < i ∨ t = i by omega) with e | e; exact hd t e; rw [e]; exact h⟩, Weak.lo⟩
  · rw [longI_none fun t ht => hd t (by omega)]
end Go.PL
