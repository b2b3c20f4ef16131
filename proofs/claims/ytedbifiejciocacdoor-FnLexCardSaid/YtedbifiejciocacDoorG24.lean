/- A plain machine, sound for the given model, and contracts of functions over it, part 24: LXd LXf AM LX4. Nothing is assumed. -/
import Derived.Test.YtedbifiejciocacDoorG23
set_option linter.unusedSimpArgs false
set_option linter.unusedVariables false
set_option linter.unusedSectionVars false
/- LXd -/
namespace Go.PL
open Go Go.Proofs
set_option maxRecDepth 10000
set_option maxHeartbeats 4000000
set_option linter.unusedSimpArgs false
set_option linter.unusedVariables false
/-- The seven marks. -/
def marks7 : List ByteArray := [⟨#[43]⟩, ⟨#[45]⟩, ⟨#[42]⟩, ⟨#[47]⟩, ⟨#[94]⟩, ⟨#[40]⟩, ⟨#[41]⟩]
/-- A drawn token. -/
def tokF (l : List Int) (σ : Src) : Tk × Src :=
  let p := nexF l 3 σ
  if p.1 = 0 then (⟨1, (nexF l 200 p.2).1, ⟨#[]⟩⟩, (nexF l 200 p.2).2)
  else if p.1 = 1 then (⟨2, (nexF l 4 p.2).1, ⟨#[]⟩⟩, (nexF l 4 p.2).2)
  else (⟨3, 0, marks7.getD (nexF l 7 p.2).1.toNat ByteArray.empty⟩, (nexF l 7 p.2).2)
theorem pick_c (l : List Int) (a : Nat) (s : Int) (k : Nat) (h : SOk l 999999999900 (a, s)) (hk : (nexF l 7 (a, s)).1 = k) (hk3 : k < 7) (os : List Ob) (o q : Nat) (hF : Fr os o) (hq : (os.set o (V3 (encB l) (.i a) (.i s)))[q]? = some (.arr 1 (marks7.map .s) false)) :
    CC 39 [.ref o 0 0, .msl q 0 7] (os.set o (V3 (encB l) (.i a) (.i s))) (.d (.s (marks7.getD k ByteArray.empty))) (os.set o (V3 (encB l) (.i (nexF l 7 (a, s)).2.1) (.i (nexF l 7 (a, s)).2.2))) := by
  have h' := h.mono (c := 999999999990) (by omega) (by omega)
  have hoq : o ≠ q := by
    rintro rfl
    rw [hF.g1] at hq
    exact absurd (Option.some.inj hq) nofun
  have hq0 : os[q]? = some (.arr 1 (marks7.map .s) false) := by rwa [List.getElem?_set_ne hoq] at hq
  have hql : q < os.length := (List.getElem?_eq_some_iff.1 hq0).1
  have hq1 : ∀ X : Ob, (os.set o X)[q]? = some (.arr 1 (marks7.map .s) false) := fun X => by rw [List.getElem?_set_ne hoq, hq0]
  have hq2 : ∀ (X : Ob) (L : List Ob), (os.set o X ++ L)[q]? = some (.arr 1 (marks7.map .s) false) := fun X L => by rw [List.getElem?_append_left (by rw [List.length_set]; exact hql), hq1]
  have h7 : marks7.length = 7 := rfl
  have h7' : ((7 : Nat) : Int) = 7 := rfl
  refine Den.newG (vs := [.d (.s (marks7.getD k ByteArray.empty))]) Tryd.func39 rfl 2 os.length [.tmp 4] (by kernel_rfl) rfl rfl (by simp only [initE_nil, initE_cons, Nat.reduceAdd]; exact rfl) rfl (by simp) (by simp) rfl (by rw [List.length_set]; exact all_set' hF.bd rfl) ?_
  
  repeat' first | (with_reducible first | refine nx' ?_ (by simp -implicitDefEqProofs (disch := omega) only [go_sem, h7, h7', hk, hq1, hq2]; exact rfl) | refine n0 ?_ | refine rD ?_ | refine n1 ?_ | refine nilB_i fun b hb => ?_ | refine nPs ?_ ?_ | refine nP ?_ ?_ | refine nS fun K hK => ?_ | (refine n2 ?_ ?_ <;> intro h <;> first | subst (h : _ = true) | subst (h : _ = false) | (simp only [FX, LX, h7, h7', hk, hq1, hq2] at h) | skip) | refine And.intro ?_ ?_ | refine nK ‹Imp _ _› ?_) | exact nl | fail
  all_goals first
    | exact finG_of [(4, .d (.s (marks7.getD k ByteArray.empty)))] [] (by rw [List.append_nil]; exact Weak.lo)
    | (rw [hq1]; done)
    | (rw [hq1]; rfl)
    | skip
theorem pick_cL {l : List Int} {a : Nat} {s : Int} {k : Nat} (h : SOk l 999999999900 (a, s)) (hk : (nexF l 7 (a, s)).1 = k) (hk3 : k < 7) {os L : List Ob} {o : Nat} (hF : Fr os o) [ArrL L] (hq : L[1]? = some (.arr 1 (marks7.map .s) false)) :
    CC 39 [.ref o 0 0, .msl (os.length + 1) 0 7] (os.set o (V3 (encB l) (.i a) (.i s)) ++ L) (.d (.s (marks7.getD k ByteArray.empty))) (os.set o (V3 (encB l) (.i (nexF l 7 (a, s)).2.1) (.i (nexF l 7 (a, s)).2.2)) ++ L) := by
  have hL : ∀ X : Ob, (os ++ L).set o X = os.set o X ++ L := fun X => List.set_append_left _ _ hF.lt
  have := pick_c l a s k h hk hk3 (os ++ L) o (os.length + 1) inferInstance (by rw [hL, hF.n1]; exact hq)
  rwa [hL, hL] at this
instance (l : List Int) (a : Nat) (s : Int) : ConS CC 25 [] (encB l) (.i a) (.i s) (SOk l 999999999800 (a, s)) (.d (encTk (tokF l (a, s)).1)) (encB l) (.i (tokF l (a, s)).2.1) (.i (tokF l (a, s)).2.2) := by
  constructor
  intro os o hF h
  obtain ⟨z1, z2, z3⟩ := nexF_ok (n := 3) h (by omega)
  have z4 := z2 (by omega)
  have h' := h.mono (c := 999999999990) (by omega) (by omega)
  have z7 := nexF_ok (n := 7) z3 (by omega)
  have z7' := z7.2.1 (by omega)
  have z7'' := z7.1
  have z3' := z3.mono (c := 999999999900) (by omega) (by omega)
  have z3'' := z3.mono (c := 999999999990) (by omega) (by omega)
  refine Den.newG (vs := [.d (encTk (tokF l (a, s)).1)]) Tryd.func25 rfl 1 os.length [.cell 2 31] (by kernel_rfl) rfl rfl (by simp only [initE_nil, initE_cons, Nat.reduceAdd]; exact rfl) rfl (by simp) (by simp) rfl (by rw [List.length_set]; exact all_set' hF.bd rfl) ?_
  unfold tokF
  simp only
  rcases (show (nexF l 3 (a, s)).1 = 0 ∨ (nexF l 3 (a, s)).1 = 1 ∨ (nexF l 3 (a, s)).1 = 2 by omega) with k | k | k
  · rw [if_pos k]
    repeat' first | (with_reducible first | refine nx' ?_ (by simp -implicitDefEqProofs (disch := omega) only [go_sem, k]; exact rfl) | refine n0 ?_ | refine rD ?_ | refine n1 ?_ | refine nilB_i fun b hb => ?_ | refine nPs ?_ ?_ | refine nP ?_ ?_ | refine nS fun K hK => ?_ | (refine n2 ?_ ?_ <;> intro h <;> first | subst (h : _ = true) | subst (h : _ = false) | (simp only [FX, LX, k] at h) | skip) | refine And.intro ?_ ?_ | refine nK ‹Imp _ _› ?_) | exact nl | fail
    exact finG_of [(2, .ref os.length 0 0)] [.var [.d (.i 1), .d (.i (nexF l 200 (nexF l 3 (a, s)).2).1), .d (.s ⟨#[]⟩)] false] Weak.lo (by simp -implicitDefEqProofs (disch := omega) only [go_sem])
  · rw [if_neg (by omega), if_pos k]
    repeat' first | (with_reducible first | refine nx' ?_ (by simp -implicitDefEqProofs (disch := omega) only [go_sem, k]; exact rfl) | refine n0 ?_ | refine rD ?_ | refine n1 ?_ | refine nilB_i fun b hb => ?_ | refine nPs ?_ ?_ | refine nP ?_ ?_ | refine nS fun K hK => ?_ | (refine n2 ?_ ?_ <;> intro h <;> first | subst (h : _ = true) | subst (h : _ = false) | (simp only [FX, LX, k] at h) | skip) | refine And.intro ?_ ?_ | refine nK ‹Imp _ _› ?_) | exact nl | fail
    exact finG_of [(2, .ref os.length 0 0)] [.var [.d (.i 2), .d (.i (nexF l 4 (nexF l 3 (a, s)).2).1), .d (.s ⟨#[]⟩)] false] Weak.lo (by simp -implicitDefEqProofs (disch := omega) only [go_sem])
  · rw [if_neg (by omega), if_neg (by omega)]
    repeat' first | (with_reducible first | refine nx' ?_ (by simp -implicitDefEqProofs (disch := omega) only [go_sem, k]; exact rfl) | refine n0 ?_ | refine rD ?_ | refine n1 ?_ | refine nilB_i fun b hb => ?_ | refine nPs ?_ ?_ | refine nP ?_ ?_ | refine nS fun K hK => ?_ | (refine n2 ?_ ?_ <;> intro h <;> first | subst (h : _ = true) | subst (h : _ = false) | (simp only [FX, LX, k] at h) | skip) | refine And.intro ?_ ?_ | refine nK ‹Imp _ _› ?_) | exact nl | fail
    obtain ⟨m, hm3, hm⟩ : ∃ m : Nat, m < 7 ∧ (nexF l 7 (nexF l 3 (a, s)).2).1 = (m : Int) := ⟨(nexF l 7 (nexF l 3 (a, s)).2).1.toNat, by omega, by omega⟩
    refine wCm (by simp -implicitDefEqProofs (disch := omega) only [calleeR, go_sem]) (pick_cL z3' hm hm3 hF rfl) ?_
    repeat' first | (with_reducible first | refine nx' ?_ | refine n0 ?_ | refine rD ?_ | refine n1 ?_ | refine nilB_i fun b hb => ?_ | refine nPs ?_ ?_ | refine nP ?_ ?_ | refine nS fun K hK => ?_ | (refine n2 ?_ ?_ <;> intro h <;> first | subst (h : _ = true) | subst (h : _ = false) | skip) | refine And.intro ?_ ?_ | refine nK ‹Imp _ _› ?_) | exact nl | fail
    exact finG_of [(2, .ref os.length 0 0)] [.var [.d (.i 3), .d (.i 0), .d (.s (marks7.getD m ByteArray.empty))] false, .arr 1 (marks7.map .s) false] Weak.lo (by rw [hm, Int.toNat_natCast]; simp -implicitDefEqProofs (disch := omega) only [go_sem])
end Go.PL

/- LXf -/
namespace Go.PL
open Go Go.Proofs
set_option maxRecDepth 10000
set_option maxHeartbeats 4000000
set_option linter.unusedSimpArgs false
set_option linter.unusedVariables false
def toksF (l : List Int) : Nat → Src → List Tk → List Tk × Src
  | 0, σ, out => (out, σ)
  | k + 1, σ, out => toksF l k (tokF l σ).2 (out ++ [(tokF l σ).1])
/-- The drawn tokens. -/
def toksD (l : List Int) (σ : Src) : List Tk × Src := toksF l (nexF l 12 σ).1.toNat (nexF l 12 σ).2 []
theorem toksF_add (l : List Int) : ∀ (j k : Nat) (σ : Src) (out : List Tk), toksF l (j + k) σ out = toksF l k (toksF l j σ out).2 (toksF l j σ out).1
  | 0, k, σ, out => by rw [Nat.zero_add]; rfl
  | j + 1, k, σ, out => by rw [show j + 1 + k = (j + k) + 1 by omega]; exact toksF_add l j k _ _
theorem toksF_succ (l : List Int) (j : Nat) (σ : Src) (out : List Tk) : toksF l (j + 1) σ out = ((toksF l j σ out).1 ++ [(tokF l (toksF l j σ out).2).1], (tokF l (toksF l j σ out).2).2) := toksF_add l j 1 σ out
/-- A token that is drawn. -/
def Drawn (k : Tk) : Prop := (k.kind = 1 ∧ (∃ n : Nat, n < 200 ∧ k.n = n) ∧ k.t = ⟨#[]⟩) ∨ (k.kind = 2 ∧ (∃ n : Nat, n < 4 ∧ k.n = n) ∧ k.t = ⟨#[]⟩) ∨ (k.kind = 3 ∧ k.n = 0 ∧ k.t ∈ marks7)
theorem tokF_ok {l : List Int} {b : Nat} {σ : Src} (h : SOk l b σ) (hb : b + 9 ≤ 1000000000000) : Drawn (tokF l σ).1 ∧ SOk l (b + 9) (tokF l σ).2 := by
  obtain ⟨a1, a2, a3⟩ := nexF_ok (n := 3) h (by omega)
  have a4 := a2 (by omega)
  obtain ⟨b1, b2, b3⟩ := nexF_ok (n := 200) a3 (by omega)
  obtain ⟨c1, c2, c3⟩ := nexF_ok (n := 4) a3 (by omega)
  obtain ⟨d1, d2, d3⟩ := nexF_ok (n := 7) a3 (by omega)
  have b4 := b2 (by omega)
  have c4 := c2 (by omega)
  have d4 := d2 (by omega)
  unfold tokF
  simp only
  rcases (show (nexF l 3 σ).1 = 0 ∨ (nexF l 3 σ).1 = 1 ∨ (nexF l 3 σ).1 = 2 by omega) with k | k | k
  · rw [if_pos k]
    exact ⟨.inl ⟨rfl, ⟨(nexF l 200 (nexF l 3 σ).2).1.toNat, by omega, by simp only; omega⟩, rfl⟩, b3.mono (by omega) (by omega)⟩
  · rw [if_neg (by omega), if_pos k]
    exact ⟨.inr (.inl ⟨rfl, ⟨(nexF l 4 (nexF l 3 σ).2).1.toNat, by omega, by simp only; omega⟩, rfl⟩), c3.mono (by omega) (by omega)⟩
  · rw [if_neg (by omega), if_neg (by omega)]
    refine ⟨.inr (.inr ⟨rfl, rfl, ?_⟩), d3.mono (by omega) (by omega)⟩
    simp only
    have : (nexF l 7 (nexF l 3 σ).2).1.toNat < marks7.length := by simp [marks7]; omega
    rw [List.getD, List.getElem?_eq_getElem this]
    exact List.getElem_mem _
theorem toksF_ok {l : List Int} {b : Nat} {σ : Src} {out : List Tk} (hd : ∀ k ∈ out, Drawn k) : ∀ {k : Nat}, SOk l b σ → b + 9 * k ≤ 1000000000000 → (∀ t ∈ (toksF l k σ out).1, Drawn t) ∧ (toksF l k σ out).1.length = out.length + k ∧ SOk l (b + 9 * k) (toksF l k σ out).2
  | 0, h, _ => ⟨hd, rfl, h⟩
  | k + 1, h, hb => by
    obtain ⟨h1, h2, h3⟩ := toksF_ok (k := k) hd h (by omega)
    obtain ⟨a1, a2⟩ := tokF_ok h3 (by omega)
    rw [toksF_succ]
    refine ⟨fun t ht => ?_, by simp [h2]; omega, a2.mono (by omega) (by omega)⟩
    rcases List.mem_append.1 ht with q | q
    · exact h1 t q
    · rw [List.mem_singleton.1 q]; exact a1
theorem toksD_ok {l : List Int} {b : Nat} {σ : Src} (h : SOk l b σ) (hb : b + 200 ≤ 1000000000000) : (∀ t ∈ (toksD l σ).1, Drawn t) ∧ (toksD l σ).1.length ≤ 11 := by
  obtain ⟨a1, a2, a3⟩ := nexF_ok (n := 12) h (by omega)
  have a4 := a2 (by omega)
  unfold toksD
  obtain ⟨h1, h2, h3⟩ := toksF_ok (out := []) (k := (nexF l 12 σ).1.toNat) (by simp) a3 (by omega)
  exact ⟨h1, by rw [h2]; simp; omega⟩
/-- A slice that was made, handed out as data. -/
theorem Weak.takeS {os : List Ob} {o : Nat} {X : Ob} {sz t len : Nat} {es : List D} (hF : Fr os o) {env env' : List (Nat × V)} (ht : look env t = .msl os.length 0 len) (hlen : es.length = len) (h : sub ((t, .d (.sl es)) :: env) env') :
    Weak os.length ⟨env, os.set o X ++ [.arr sz es false]⟩ ⟨env', os.set o X ++ [.arr sz es true]⟩ := by
  have e1 : freeze (os.set o X ++ [.arr sz es false]) [os.length] = os.set o X ++ [.arr sz es true] := hF.m0 X _
  have h1 : Weak os.length ⟨env, os.set o X ++ [.arr sz es false]⟩ ⟨env, os.set o X ++ [.arr sz es true]⟩ := by
    have := Weak.fz (nF := os.length) (s := ⟨env, os.set o X ++ [.arr sz es false]⟩) [os.length]
    rwa [show ({ (⟨env, os.set o X ++ [.arr sz es false]⟩ : St) with os := freeze (os.set o X ++ [.arr sz es false]) [os.length] } : St) = ⟨env, os.set o X ++ [.arr sz es true]⟩ by rw [e1]] at this
  refine h1.trans (.trans (.thaw (o := os.length) (t := t) (off := 0) (len := len) (sz := sz) (es := es) ?_ ht) (.env ?_ rfl))
  · rw [hF.n0]; rfl
  · subst hlen
    rw [List.drop_zero, List.take_length]
    exact h
set_option maxHeartbeats 4000000 in
instance (l : List Int) (a : Nat) (s : Int) : ConS CC 11 [] (encB l) (.i a) (.i s) (SOk l 999999999000 (a, s)) (.d (.sl ((toksD l (a, s)).1.map encTk))) (encB l) (.i (toksD l (a, s)).2.1) (.i (toksD l (a, s)).2.2) := by
  constructor
  intro os o hF h
  obtain ⟨z1, z2, z3⟩ := nexF_ok (n := 12) h (by omega)
  have z4 := z2 (by omega)
  have h' := h.mono (c := 999999999990) (by omega) (by omega)
  have hN : toksD l (a, s) = toksF l (nexF l 12 (a, s)).1.toNat (nexF l 12 (a, s)).2 [] := rfl
  refine Den.newG (vs := [.d (.sl ((toksD l (a, s)).1.map encTk))]) Tryd.func11 rfl 1 os.length [.tmp 2] (by kernel_rfl) rfl rfl (by simp only [initE_nil, initE_cons, Nat.reduceAdd]; exact rfl) rfl (by simp) (by simp) rfl (by rw [List.length_set]; exact all_set' hF.bd rfl) ?_
  
  repeat' first | (with_reducible first | refine nx' ?_ | refine n0 ?_ | refine rD ?_ | refine n1 ?_ | refine nilB_i fun b hb => ?_ | refine nPs ?_ ?_ | refine nP ?_ ?_ | refine nS fun K hK => ?_ | (refine n2 ?_ ?_ <;> intro h <;> first | subst (h : _ = true) | subst (h : _ = false) | skip) | refine And.intro ?_ ?_ | refine nK ‹Imp _ _› ?_) | exact nl | fail
  generalize (nexF l 12 (a, s)).2 = σ at *
  generalize hm : (nexF l 12 (a, s)).1 = m at *
  obtain ⟨q, rfl⟩ : ∃ q : Nat, m = (q : Int) := ⟨m.toNat, by omega⟩
  rw [Int.toNat_natCast] at hN
  rw [hN]
  refine Wp.loopR (fun j : Nat => ⟨[(0, .ref o 0 0), (3, .msl os.length 0 (toksF l j σ []).1.length), (4, .d (.i ((q - j : Nat) : Int)))], os.set o (V3 (encB l) (.i (toksF l j σ []).2.1) (.i (toksF l j σ []).2.2)) ++ [.arr 3 ((toksF l j σ []).1.map encTk) false]⟩) (fun j => q - j) (fun j => j ≤ q) 0 ?_ (by omega) ?_
  · exact Weak.lo
  rintro j hj K hK
  obtain ⟨y1, y2, y3⟩ := toksF_ok (out := []) (k := j) (by simp) z3 (by omega)
  have hs := toksF_succ l j σ []
  generalize hP : toksF l j σ [] = P at *
  obtain ⟨out, τ⟩ := P
  simp only at hs y1 y2 y3 ⊢
  have y2' : out.length = j := by simpa using y2
  by_cases hjq : j < q
  · have y3' := y3.mono (c := 999999999800) (by omega) (by omega)
    repeat' first | (with_reducible first | refine nx' ?_ | refine n0 ?_ | refine rD ?_ | refine n1 ?_ | refine nilB_i fun b hb => ?_ | refine nPs ?_ ?_ | refine nP ?_ ?_ | refine nS fun K hK => ?_ | (refine n2 ?_ ?_ <;> intro h <;> first | subst (h : _ = true) | subst (h : _ = false) | skip) | refine And.intro ?_ ?_ | refine nK ‹Imp _ _› ?_) | exact nl | fail
    refine ⟨j + 1, by omega, by omega, ?_⟩
    rw [hs]
    simp only
    refine hF.cut ?_ ?_ ?_
    · simp -implicitDefEqProofs (disch := omega) only [go_sem, sub_nil, sub_cons, LX]
      first | (congr 3; omega) | (refine ⟨?_, ?_⟩ <;> first | rfl | trivial | (congr 3; omega))
    · have := hF.lt
      simp [V.bnd, V.bnd1]; omega
    · rfl
  · obtain rfl : j = q := by omega
    repeat' first | (with_reducible first | refine nx' ?_ | refine n0 ?_ | refine rD ?_ | refine n1 ?_ | refine nilB_i fun b hb => ?_ | refine nPs ?_ ?_ | refine nP ?_ ?_ | refine nS fun K hK => ?_ | (refine n2 ?_ ?_ <;> intro h <;> first | subst (h : _ = true) | subst (h : _ = false) | skip) | refine And.intro ?_ ?_ | refine nK ‹Imp _ _› ?_) | exact nl | fail
    rw [hN, hP]
    exact finG_of [(2, .d (.sl (out.map encTk)))] [.arr 3 (out.map encTk) true] (Weak.takeS hF (t := 2) rfl (by simp) ⟨rfl, trivial⟩)
instance (l : List Int) : Con CC 4 [.d (encB l)] (Byt l ∧ l.length ≤ 1048576) (.d (.sl ((toksD l (0, (l.length : Int) % 1000)).1.map encTk))) := by
  constructor
  intro ⟨hb, hl⟩
  have hS : SOk l 999999999000 (0, (l.length : Int) % 1000) := ⟨hb, hl, by simp, by omega, by simp only; omega, by simp only; omega⟩
  have cS : CC 10 [.d (encB l)] [] (.ref 0 0 0) [V3 (encB l) (.i ((0 : Nat) : Int)) (.i ((l.length : Int) % 1000))] := by
    refine Den.newG (vs := [.ref 0 0 0]) Tryd.func10 rfl 1 0 [.tmp 2] (by kernel_rfl) rfl rfl (by simp only [initE_nil, initE_cons, Nat.reduceAdd]; exact rfl) rfl rfl (by simp) rfl rfl ?_
    repeat' first | (with_reducible first | refine nx' ?_ | refine n0 ?_ | refine rD ?_ | refine n1 ?_ | refine nilB_i fun b hb => ?_ | refine nP ?_ ?_ | refine nS fun K hK => ?_ | (refine n2 ?_ ?_ <;> intro h <;> first | subst (h : _ = true) | subst (h : _ = false) | skip) | refine And.intro ?_ ?_ | refine nK ‹Imp _ _› ?_) | exact nl | fail
    exact finG_of [(2, .ref 0 0 0)] [] Weak.lo
  refine Den.pureI Tryd.func4 rfl 1 [.tmp 2] (by kernel_rfl) rfl rfl (by simp only [initE_nil, initE_cons, Nat.reduceAdd]; exact rfl) ?_
  repeat' first | (with_reducible first | refine nx' ?_ | refine n0 ?_ | refine rD ?_ | refine n1 ?_ | refine nilB_i fun b hb => ?_ | refine nPm (cS) ?_ | refine nPs ?_ ?_ | refine nP ?_ ?_ | refine nS fun K hK => ?_ | (refine n2 ?_ ?_ <;> intro h <;> first | subst (h : _ = true) | subst (h : _ = false) | skip) | refine And.intro ?_ ?_ | refine nK ‹Imp _ _› ?_) | exact nl | fail
end Go.PL

/- AM -/
namespace Go.PL
open Go Go.Proofs
set_option maxRecDepth 10000
set_option maxHeartbeats 4000000
set_option linter.unusedSimpArgs false
set_option linter.unusedVariables false
abbrev spB : ByteArray := ByteArray.mk #[32]
theorem textTk_size {k : Tk} (h : okTk k = true) : (textTk k).size ≤ 1000000001 := by
  unfold textTk
  by_cases h1 : k.kind = 1
  · obtain ⟨m, hm, hm2⟩ := okTk_n h (.inl h1)
    rw [if_pos h1, hm]
    have := digB_size m
    simp only [Int.toNat_natCast]; omega
  by_cases h2 : k.kind = 2
  · obtain ⟨m, hm, hm2⟩ := okTk_n h (.inr h2)
    rw [if_neg h1, if_pos h2, hm, ByteArray.size_append]
    have := digB_size m
    have e : (ByteArray.mk #[120]).size = 1 := rfl
    simp only [Int.toNat_natCast]; omega
  · rw [if_neg h1, if_neg h2]
    unfold okTk at h
    rw [if_neg h1, if_neg h2] at h
    by_cases h3 : k.t.size = 1
    · omega
    · rw [punct_size h3] at h
      simp at h
theorem szJ_toks {l : List Tk} (hl : l.length ≤ 400) (h : ∀ k ∈ l, okTk k = true) : szJ (l.map textTk) spB ≤ 140737488355328 := by
  have h1 := szJ_le (ws := l.map textTk) (sep := spB) (b := 1000000001) fun w hw => by
    obtain ⟨k, hk, rfl⟩ := List.mem_map.1 hw
    exact textTk_size (h k hk)
  have e : spB.size = 1 := rfl
  rw [List.length_map, e] at h1
  have := Nat.mul_le_mul_left (1 + 1000000001) hl
  omega
theorem take_text {l : List Tk} {i : Nat} (h : i < l.length) : (l.take i).map textTk ++ [textTk (l.getD i tk0)] = (l.take (i + 1)).map textTk := by
  rw [List.take_add_one, List.getElem?_eq_getElem h, List.map_append, List.getD, List.getElem?_eq_getElem h]; rfl
theorem arr_i3 {x y z : Int} {fz : Bool} : Ob.arr 1 [D.val (.int .i64 x), D.val (.int .i64 y), D.val (.int .i64 z)] fz = .arr 1 ([x, y, z].map D.i) fz := rfl
attribute [go_sem] arr_i3
instance (l : List Tk) : Con CC 20 [.d (.sl (l.map encTk))] (l.length ≤ 400 ∧ ∀ k ∈ l, okTk k = true) (.d (.s (joinB (l.map textTk) spB))) := by
  constructor; intro ⟨hl, hk⟩
  have hz := szJ_toks hl hk
  refine Den.pureI Tryd.func20 rfl 1 [.tmp 2] (by kernel_rfl) rfl rfl (by simp only [initE_nil, initE_cons, Nat.reduceAdd]; exact rfl) ?_
  repeat' first | (with_reducible first | refine nx' ?_ | refine n0 ?_ | refine rD ?_ | refine n1 ?_ | refine nilB_i fun b hb => ?_ | refine nP ?_ ?_ | refine nS fun K hK => ?_ | (refine n2 ?_ ?_ <;> intro h <;> first | subst (h : _ = true) | subst (h : _ = false) | skip) | refine And.intro ?_ ?_ | refine nK ‹Imp _ _› ?_) | exact nl | fail
  refine Wp.loopR (fun x : Nat × List ByteArray => ⟨[(0, .d (.sl (l.map encTk))), (3, .msl 0 0 x.2.length), (4, .d (.i x.1))], [.arr 1 (x.2.map .s) false]⟩) (fun x => l.length - x.1) (fun x => x.1 ≤ l.length ∧ x.2 = (l.take x.1).map textTk) (0, []) Weak.lo ⟨by simp, rfl⟩ ?_
  rintro ⟨i, ws⟩ ⟨hi, hw⟩ K hK
  simp only at hi hw ⊢
  have hlt : ws.length = i := by rw [hw, List.length_map, List.length_take]; omega
  by_cases hil : i < l.length
  · have e := take_text hil
    have hki := hk _ (getD_mem tk0 hil)
    repeat' first | (with_reducible first | refine nx' ?_ | refine n0 ?_ | refine rD ?_ | refine n1 ?_ | refine nilB_i fun b hb => ?_ | refine nP ?_ ?_ | refine nS fun K hK => ?_ | (refine n2 ?_ ?_ <;> intro h <;> first | subst (h : _ = true) | subst (h : _ = false) | skip) | refine And.intro ?_ ?_ | refine nK ‹Imp _ _› ?_) | exact nl | fail
    exact ⟨(i + 1, ws ++ [textTk (l.getD i tk0)]), by simp only; omega, ⟨by simp only; omega, by rw [hw, e]⟩, Weak.cu⟩
  · obtain rfl : i = l.length := by omega
    rw [List.take_length] at hw
    have hz2 : szJ ws spB ≤ 140737488355328 := by rw [hw]; exact hz
    repeat' first | (with_reducible first | refine nx' ?_ | refine n0 ?_ | refine rD ?_ | refine n1 ?_ | refine nilB_i fun b hb => ?_ | refine nP ?_ ?_ | refine nS fun K hK => ?_ | (refine n2 ?_ ?_ <;> intro h <;> first | subst (h : _ = true) | subst (h : _ = false) | skip) | refine And.intro ?_ ?_ | refine nK ‹Imp _ _› ?_) | exact nl | fail
    rw [hw]
def jcode (l : List Tk) : Int := if 4096 < l.length then 2 else if 400 < l.length then 6 else if l.all okTk then 0 else 1
def jtext (l : List Tk) : ByteArray := if l.length ≤ 400 ∧ l.all okTk = true then joinB (l.map textTk) spB else ⟨#[]⟩
instance (l : List Tk) : Con CC 6 [.d (.sl (l.map encTk))] (bTks l) (.tup [.d (.s (jtext l)), .d (.i (jcode l))]) := by
  constructor; intro hb
  have hl0 := hb.1
  refine Den.pureI Tryd.func6 rfl 1 [.tmp 2, .tmp 3] (by kernel_rfl) rfl rfl (by simp only [initE_nil, initE_cons, Nat.reduceAdd]; exact rfl) ?_
  repeat' first | (with_reducible first | refine nx' ?_ | refine n0 ?_ | refine rD ?_ | refine n1 ?_ | refine nilB_i fun b hb => ?_ | refine nP ?_ ?_ | refine nS fun K hK => ?_ | (refine n2 ?_ ?_ <;> intro h <;> first | subst (h : _ = true) | subst (h : _ = false) | skip) | refine And.intro ?_ ?_ | refine nK ‹Imp _ _› ?_) | exact nl | fail
  · unfold jtext jcode; rw [if_neg (by omega), if_pos (by omega)]
  · unfold jtext jcode; rw [if_neg (by omega), if_neg (by omega), if_pos (by omega)]
  refine Wp.loopR (fun i : Nat => ⟨[(0, .d (.sl (l.map encTk))), (4, .d (.i i))], []⟩) (fun i => l.length - i) (fun i => i ≤ l.length ∧ ∀ t, t < i → okTk (l.getD t tk0) = true) 0 Weak.lo ⟨by simp, by intro t ht; omega⟩ ?_
  rintro i ⟨hi, hd⟩ K hK
  have all : i = l.length → ∀ k ∈ l, okTk k = true := fun e k hk => by
    obtain ⟨j, hj, rfl⟩ := List.getElem_of_mem hk
    have := hd j (by omega)
    simpa only [List.getD, List.getElem?_eq_getElem hj, Option.getD_some] using this
  by_cases hil : i < l.length
  · repeat' first | (with_reducible first | refine nx' ?_ | refine n0 ?_ | refine rD ?_ | refine n1 ?_ | refine nilB_i fun b hb => ?_ | refine nP ?_ ?_ | refine nS fun K hK => ?_ | (refine n2 ?_ ?_ <;> intro h <;> first | subst (h : _ = true) | subst (h : _ = false) | skip) | refine And.intro ?_ ?_ | refine nK ‹Imp _ _› ?_) | exact nl | fail
    · have hn : l.all okTk = false := by
        rw [List.all_eq_false]; exact ⟨_, getD_mem tk0 hil, by simpa using h⟩
      unfold jtext jcode; rw [if_neg (by rw [hn]; simp), if_neg (by omega), if_neg (by omega), if_neg (by rw [hn]; simp)]
    · exact ⟨i + 1, by omega, ⟨by omega, fun t ht => by rcases (show t < i ∨ t = i by omega) with e | e; exact hd t e; rw [e]; exact h⟩, Weak.lo⟩
  · have ha := all (by omega)
    repeat' first | (with_reducible first | refine nx' ?_ | refine n0 ?_ | refine rD ?_ | refine n1 ?_ | refine nilB_i fun b hb => ?_ | refine nP ?_ ?_ | refine nS fun K hK => ?_ | (refine n2 ?_ ?_ <;> intro h <;> first | subst (h : _ = true) | subst (h : _ = false) | skip) | refine And.intro ?_ ?_ | refine nK ‹Imp _ _› ?_) | exact nl | fail
    have hn : l.all okTk = true := by rw [List.all_eq_true]; exact ha
    unfold jtext jcode; rw [if_pos ⟨by omega, hn⟩, if_neg (by omega), if_neg (by omega), if_pos hn]
instance (a n : Int) (t : ByteArray) : Con CC 16 [.d (.agg [.i a, .i n, .s t])] (t.size ≤ 1048576) (.d (.b (!okTk ⟨a, n, t⟩))) := by
  constructor; intro pre
  refine Den.pureI Tryd.func16 rfl 1 [.tmp 2] (by kernel_rfl) rfl rfl (by simp only [initE_nil, initE_cons, Nat.reduceAdd]; exact rfl) ?_
  repeat' first | (with_reducible first | refine nx' ?_ | refine n0 ?_ | refine rD ?_ | refine n1 ?_ | refine nilB_i fun b hb => ?_ | refine nP ?_ ?_ | refine nS fun K hK => ?_ | (refine n2 ?_ ?_ <;> intro h <;> first | subst (h : _ = true) | subst (h : _ = false) | skip) | refine And.intro ?_ ?_ | refine nK ‹Imp _ _› ?_) | exact nl | fail
instance (l : List Tk) : Con CC 5 [.d (.sl (l.map encTk))] (bTks l) (.tup [.d (.s (jtext l)), .d (.i (jcode l))]) := by
  constructor; intro hb
  have hl0 := hb.1
  have hc := containsFunc_T 16 [] (fun k => !okTk k) l (by omega) fun k hk => Con.ok (C := CC) (vs := [.d (.agg [.i k.kind, .i k.n, .s k.t])]) (hb.2 k hk)
  have key : firstI [longI 4096 [(l.length : Int)], if decide ((l.length : Int) ≤ 400) = true then 0 else 6, if (!l.any fun k => !okTk k) = true then 0 else 1] = jcode l := by
    have e : (!l.any fun k => !okTk k) = l.all okTk := by rw [List.all_eq_not_any_not]
    rw [e]
    unfold jcode
    simp only [firstI, longI, List.any_cons, List.any_nil, Bool.or_false, decide_eq_true_eq]
    by_cases h1 : 4096 < l.length
    · rw [if_pos h1, if_pos (show (4096 : Int) < l.length by omega), if_neg (by omega)]
    · rw [if_neg h1, if_neg (show ¬(4096 : Int) < l.length by omega), if_pos rfl]
      by_cases h2 : 400 < l.length
      · rw [if_pos h2, if_neg (show ¬(l.length : Int) ≤ 400 by omega), if_neg (by omega)]
      · rw [if_neg h2, if_pos (show (l.length : Int) ≤ 400 by omega), if_pos rfl]
        split <;> simp
  refine Den.pureI Tryd.func5 rfl 1 [.tmp 2, .tmp 3] (by kernel_rfl) rfl rfl (by simp only [initE_nil, initE_cons, Nat.reduceAdd]; exact rfl) ?_
  repeat' first | (with_reducible first | refine nx' ?_ (by simp -implicitDefEqProofs (disch := omega) only [go_sem, key]; exact rfl) | refine n0 ?_ | refine rD ?_ | refine n1 ?_ | refine nilB_i fun b hb => ?_ | refine nPc (hc) ?_ | refine nP ?_ ?_ | refine nS fun K hK => ?_ | (refine n2 ?_ ?_ <;> intro h <;> first | subst (h : _ = true) | subst (h : _ = false) | (simp only [FX, LX, key] at h) | skip) | refine And.intro ?_ ?_ | refine nK ‹Imp _ _› ?_) | exact nl | fail
  · unfold jtext
    rw [if_neg]
    rintro ⟨h1, h2⟩
    unfold jcode at h
    rw [if_neg (by omega), if_neg (by omega), if_pos h2] at h
    exact h rfl
  have hj : jcode l = 0 := h
  have hok : l.length ≤ 400 ∧ l.all okTk = true := by
    unfold jcode at h
    refine ⟨?_, ?_⟩
    · by_cases h1 : 4096 < l.length
      · rw [if_pos h1] at h; omega
      by_cases h2 : 400 < l.length
      · rw [if_neg h1, if_pos h2] at h; omega
      omega
    · split at h
      · omega
      split at h
      · omega
      split at h
      · assumption
      · omega
  have hk : ∀ k ∈ l, okTk k = true := fun k => List.all_eq_true.1 hok.2 k
  have hz := szJ_toks hok.1 hk
  have hl400 := hok.1
  refine Wp.loopR (fun x : Nat × List ByteArray => ⟨[(5, .msl 2 0 x.2.length), (26, .d (.sl (l.map encTk))), (27, .d (.i l.length)), (28, .d (.i x.1))], [.arr 1 ([(l.length : Int)].map .i) false, .arr 1 ([longI 4096 [(l.length : Int)], if decide ((l.length : Int) ≤ 400) = true then 0 else 6, if (!l.any fun k => !okTk k) = true then 0 else 1].map .i) false, .arr 1 (x.2.map .s) false]⟩) (fun x => l.length - x.1) (fun x => x.1 ≤ l.length ∧ x.2 = (l.take x.1).map textTk) (0, []) Weak.lo ⟨by simp, rfl⟩ ?_
  rintro ⟨i, ws⟩ ⟨hi, hw⟩ K hK
  simp only at hi hw ⊢
  have hlt : ws.length = i := by rw [hw, List.length_map, List.length_take]; omega
  by_cases hil : i < l.length
  · have e := take_text hil
    have hki := hk _ (getD_mem tk0 hil)
    repeat' first | (with_reducible first | refine nx' ?_ | refine n0 ?_ | refine rD ?_ | refine n1 ?_ | refine nilB_i fun b hb => ?_ | refine nP ?_ ?_ | refine nS fun K hK => ?_ | (refine n2 ?_ ?_ <;> intro h <;> first | subst (h : _ = true) | subst (h : _ = false) | skip) | refine And.intro ?_ ?_ | refine nK ‹Imp _ _› ?_) | exact nl | fail
    exact ⟨(i + 1, ws ++ [textTk (l.getD i tk0)]), by simp only; omega, ⟨by simp only; omega, by rw [hw, e]⟩, Weak.cu⟩
  · obtain rfl : i = l.length := by omega
    rw [List.take_length] at hw
    have hz2 : szJ ws spB ≤ 140737488355328 := by rw [hw]; exact hz
    repeat' first | (with_reducible first | refine nx' ?_ | refine n0 ?_ | refine rD ?_ | refine n1 ?_ | refine nilB_i fun b hb => ?_ | refine nP ?_ ?_ | refine nS fun K hK => ?_ | (refine n2 ?_ ?_ <;> intro h <;> first | subst (h : _ = true) | subst (h : _ = false) | skip) | refine And.intro ?_ ?_ | refine nK ‹Imp _ _› ?_) | exact nl | fail
    unfold jtext
    rw [if_pos hok, hw, hj]
theorem bTks_sz {l : List Tk} {left : Int} (h : ¬ szL 1048576 (szTks l) < 0) : bTks l := by
  have h2 : szTks l ≤ 1048576 := by
    unfold szL at h
    split at h <;> omega
  unfold szTks at h2
  exact ⟨by omega, fun k hk => by have := sumOf_mem (f := szTk) hk; have e : szTk k = k.t.size := rfl; omega⟩
end Go.PL

/- LX4 -/
namespace Go.PL
open Go Go.Proofs
set_option maxRecDepth 10000
set_option maxHeartbeats 4000000
set_option linter.unusedSimpArgs false
set_option linter.unusedVariables false
/-- A token's bytes. -/
def tkL (k : Tk) : List UInt8 := (textTk k).data.toList
theorem dec_len3 {n : Nat} (h : n < 200) : (Lib.decDigits n).length ≤ 3 := by
  rw [Lib.decDigits]
  split
  · simp
  · rw [Lib.decDigits]
    split
    · simp
    · rw [Lib.decDigits, dif_pos (by omega)]; simp
theorem digF_app {d r : List UInt8} (hd : ∀ c ∈ d, isDg c) (hr : r.getD 0 32 = 32) : digF (d ++ r) = d := by
  unfold digF
  rw [List.takeWhile_append_of_pos (fun c hc => by simpa using hd c hc)]
  cases r with
  | nil => simp
  | cons c r =>
    have hc : c = 32 := hr
    subst hc
    rw [List.takeWhile_cons, if_neg (by decide), List.append_nil]
theorem trimS_ne {c : UInt8} {r : List UInt8} (h : c ≠ 32) : trimS (c :: r) = c :: r := by
  unfold trimS; rw [List.dropWhile_cons, if_neg (by simpa using h)]
theorem trimS_sp {r : List UInt8} : trimS (32 :: r) = trimS r := by
  unfold trimS; rw [List.dropWhile_cons, if_pos (by rfl)]
theorem digF_no {c : UInt8} {r : List UInt8} (h : ¬ isDg c) : digF (c :: r) = [] := by
  unfold digF; rw [List.takeWhile_cons, if_neg (by simpa using h)]
/-- What is read of a drawn token's text, whatever comes then. -/
theorem next_tk {k : Tk} (h : Drawn k) {r : List UInt8} (hr : r.getD 0 32 = 32) : nextF (tkL k ++ r) = (k, (tkL k).length) ∧ 1 ≤ (tkL k).length ∧ (digF (tkL k ++ r)).length ≤ 18 ∧ trimS (tkL k ++ r) = tkL k ++ r := by
  obtain ⟨kd, n, t⟩ := k
  rcases h with ⟨h1, ⟨m, hm, h2⟩, h3⟩ | ⟨h1, ⟨m, hm, h2⟩, h3⟩ | ⟨h1, h2, h3⟩
  · simp only at h1 h2 h3
    subst h1 h2 h3
    have e : tkL ⟨1, (m : Int), ⟨#[]⟩⟩ = Lib.decDigits m := by
      show (digB ((m : Int)).toNat).data.toList = _
      rw [Int.toNat_natCast]; rfl
    rw [e]
    have hd := digF_app (dec_dig m) hr
    have hl := dec_len3 hm
    have hne := dec_ne m
    have h1 : 1 ≤ (Lib.decDigits m).length := by
      cases hq : Lib.decDigits m with
      | nil => exact absurd hq hne
      | cons c r => simp
    have hn : numOk (Lib.decDigits m) = true := by
      unfold numOk
      rw [dv_dec]
      simp; omega
    refine ⟨?_, h1, by rw [hd]; omega, ?_⟩
    · unfold nextF
      rw [hd, if_neg hne, if_pos hn, dv_dec]
    · cases hq : Lib.decDigits m with
      | nil => exact absurd hq hne
      | cons c q =>
        have hc := dec_dig m c (by rw [hq]; simp)
        refine trimS_ne fun e => ?_
        subst e
        exact absurd hc (by decide)
  · simp only at h1 h2 h3
    subst h1 h2 h3
    have e : tkL ⟨2, (m : Int), ⟨#[]⟩⟩ = 120 :: [UInt8.ofNat (48 + m)] := by
      show (ByteArray.mk #[120] ++ digB ((m : Int)).toNat).data.toList = _
      rw [Int.toNat_natCast, ByteArray.data_append]
      show ((#[120] : Array UInt8) ++ (Lib.decDigits m).toArray).toList = _
      rw [Lib.decDigits, dif_pos (by omega)]
      simp
    rw [e]
    have hd : digF ((120 :: [UInt8.ofNat (48 + m)]) ++ r) = [] := digF_no (by decide)
    refine ⟨?_, by simp, by rw [hd]; simp, trimS_ne (by decide)⟩
    unfold nextF
    rw [hd, if_pos rfl]
    rcases (show m = 0 ∨ m = 1 ∨ m = 2 ∨ m = 3 by omega) with rfl | rfl | rfl | rfl
    all_goals
      rw [if_pos ⟨rfl, by simp, by first | exact (show 48 ≤ (48 : UInt8).toNat by decide) | exact (show 48 ≤ (49 : UInt8).toNat by decide) | exact (show 48 ≤ (50 : UInt8).toNat by decide) | exact (show 48 ≤ (51 : UInt8).toNat by decide), by first | exact (show (48 : UInt8).toNat ≤ 51 by decide) | exact (show (49 : UInt8).toNat ≤ 51 by decide) | exact (show (50 : UInt8).toNat ≤ 51 by decide) | exact (show (51 : UInt8).toNat ≤ 51 by decide)⟩]
      rfl
  · simp only at h1 h2 h3
    subst h1 h2
    have key : ∀ c : UInt8, c ≠ 32 → ¬ isDg c → c ≠ 120 → punctB (strT [c]) = true → nextF ([c] ++ r) = (⟨3, 0, strT [c]⟩, 1) ∧ 1 ≤ 1 ∧ (digF ([c] ++ r)).length ≤ 18 ∧ trimS ([c] ++ r) = [c] ++ r := by
      intro c c1 c2 c3 c4
      have hd : digF ([c] ++ r) = [] := digF_no c2
      refine ⟨?_, Nat.le_refl _, by rw [hd]; simp, trimS_ne c1⟩
      unfold nextF
      rw [hd, if_pos rfl, if_neg (fun q => c3 q.1)]
      have : ([c] ++ r).take 1 = [c] := by simp
      rw [this, if_pos c4]
    simp only [marks7, List.mem_cons, List.not_mem_nil, or_false] at h3
    rcases h3 with rfl | rfl | rfl | rfl | rfl | rfl | rfl
    · exact key 43 (by decide) (by decide) (by decide) (by rw [punct_list]; rfl)
    · exact key 45 (by decide) (by decide) (by decide) (by rw [punct_list]; rfl)
    · exact key 42 (by decide) (by decide) (by decide) (by rw [punct_list]; rfl)
    · exact key 47 (by decide) (by decide) (by decide) (by rw [punct_list]; rfl)
    · exact key 94 (by decide) (by decide) (by decide) (by rw [punct_list]; rfl)
    · exact key 40 (by decide) (by decide) (by decide) (by rw [punct_list]; rfl)
    · exact key 41 (by decide) (by decide) (by decide) (by rw [punct_list]; rfl)
theorem lex_one {k : Tk} (h : Drawn k) {l r : List UInt8} {ks : List Tk} (hr : r.getD 0 32 = 32) (hl : trimS l = trimS (tkL k ++ r)) (hk : LexTo r ks) : LexTo l (k :: ks) := by
  obtain ⟨h1, h2, h3, h4⟩ := next_tk h hr
  rw [h4] at hl
  refine .cons (n := (tkL k).length) ?_ ?_ ?_ h2 ?_ ?_
  · rw [hl, List.length_append]; omega
  · rw [hl]; exact h3
  · rw [hl]; exact h1
  · rw [hl, List.length_append]; omega
  · rw [hl, List.drop_left]; exact hk
theorem tail_hd (xs : List (List UInt8)) : (Lib.joinTail [32] xs ++ [32]).getD 0 32 = 32 := by
  cases xs with
  | nil => rfl
  | cons x r => rfl
theorem lex_tail : ∀ {ks : List Tk}, (∀ k ∈ ks, Drawn k) → LexTo (Lib.joinTail [32] (ks.map tkL) ++ [32]) ks
  | [], _ => .nil rfl
  | k :: ks, h => by
    refine lex_one (h k (by simp)) (tail_hd (ks.map tkL)) ?_ (lex_tail fun x hx => h x (by simp [hx]))
    have : Lib.joinTail [32] ((k :: ks).map tkL) ++ [32] = 32 :: (tkL k ++ (Lib.joinTail [32] (ks.map tkL) ++ [32])) := by
      simp [Lib.joinTail]
    rw [this, trimS_sp]
/-- The joined texts, with blanks about them, are read as the tokens. -/
theorem lex_join {ks : List Tk} (h : ∀ k ∈ ks, Drawn k) : LexTo (32 :: 32 :: (Lib.join (ks.map tkL) [32] ++ [32])) ks := by
  cases ks with
  | nil => exact .nil rfl
  | cons k ks =>
    rw [List.map_cons, Lib.join_cons, List.append_assoc]
    refine lex_one (h k (by simp)) (tail_hd (ks.map tkL)) ?_ (lex_tail fun x hx => h x (by simp [hx]))
    rw [trimS_sp, trimS_sp]
theorem drawn_ok {k : Tk} (h : Drawn k) : okTk k = true ∧ k.t.size ≤ 1 ∧ 1 ≤ (tkL k).length ∧ (tkL k).length ≤ 3 := by
  have hp := (next_tk h (r := []) rfl).2.1
  obtain ⟨kd, n, t⟩ := k
  rcases h with ⟨h1, ⟨m, hm, h2⟩, h3⟩ | ⟨h1, ⟨m, hm, h2⟩, h3⟩ | ⟨h1, h2, h3⟩
  · simp only at h1 h2 h3
    subst h1 h2 h3
    refine ⟨?_, by simp [ByteArray.size], hp, ?_⟩
    · unfold okTk; rw [if_pos rfl]; simp; omega
    · show (digB ((m : Int)).toNat).data.toList.length ≤ 3
      rw [Int.toNat_natCast]; exact dec_len3 hm
  · simp only at h1 h2 h3
    subst h1 h2 h3
    refine ⟨?_, by simp [ByteArray.size], hp, ?_⟩
    · unfold okTk; rw [if_neg (show ¬ ((2 : Int) = 1) by decide), if_pos rfl]; simp; omega
    · show (ByteArray.mk #[120] ++ digB ((m : Int)).toNat).data.toList.length ≤ 3
      rw [Int.toNat_natCast, ByteArray.data_append]
      show ((#[120] : Array UInt8) ++ (Lib.decDigits m).toArray).toList.length ≤ 3
      rw [Lib.decDigits, dif_pos (by omega)]
      simp
  · simp only at h1 h2 h3
    subst h1 h2
    simp only [marks7, List.mem_cons, List.not_mem_nil, or_false] at h3
    rcases h3 with rfl | rfl | rfl | rfl | rfl | rfl | rfl
    all_goals refine ⟨?_, by decide, hp, by show ([_] : List UInt8).length ≤ 3; simp⟩
    all_goals (unfold okTk; rw [if_neg (by decide), if_neg (by decide), if_pos rfl, punct_list]; rfl)
theorem lens_le {xs : List (List UInt8)} (h : ∀ x ∈ xs, x.length ≤ 3) : Lib.lens xs ≤ 3 * xs.length := by
  induction xs with
  | nil => simp [Lib.lens]
  | cons x r ih =>
    have h1 := h x (by simp)
    have h2 := ih fun y hy => h y (by simp [hy])
    rw [lens_cons, List.length_cons]; omega
theorem join_len {ks : List Tk} (h : ∀ k ∈ ks, Drawn k) (hl : ks.length ≤ 11) : (Lib.join (ks.map tkL) [32]).length ≤ 1000 := by
  have h2 := lens_le (xs := ks.map tkL) fun x hx => by
    obtain ⟨k, hk, rfl⟩ := List.mem_map.1 hx
    exact (drawn_ok (h k hk)).2.2.2
  rw [List.length_map] at h2
  cases ks with
  | nil => simp [Lib.join_nil]
  | cons k ks =>
    rw [List.map_cons] at h2 ⊢
    rw [Lib.join_length]
    simp only [List.length_cons, List.length_nil, List.length_map] at hl h2 ⊢
    omega
theorem jtext_drawn {ks : List Tk} (h : ∀ k ∈ ks, Drawn k) (hl : ks.length ≤ 11) : jtext ks = strT (Lib.join (ks.map tkL) [32]) ∧ jcode ks = 0 ∧ bTks ks := by
  have hok : ks.all okTk = true := List.all_eq_true.2 fun k hk => (drawn_ok (h k hk)).1
  refine ⟨?_, ?_, by omega, fun k hk => by have := (drawn_ok (h k hk)).2.1; omega⟩
  · unfold jtext
    rw [if_pos ⟨by omega, hok⟩]
    unfold joinB
    rw [List.map_map]; rfl
  · unfold jcode
    rw [if_neg (by omega), if_neg (by omega), if_pos hok]
end Go.PL
