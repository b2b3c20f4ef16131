/- A plain machine, sound for the given model, and contracts of functions over it, part 40: RM5 DS2 DS3 DS4. Nothing is assumed. -/
import Derived.Test.YtedbifiejciocaeGreatDoorG39
set_option linter.unusedSimpArgs false
set_option linter.unusedVariables false
set_option linter.unusedSectionVars false
/- RM5 -/
namespace Go.PL
open Go Go.Proofs
set_option maxRecDepth 10000
set_option maxHeartbeats 4000000
set_option linter.unusedSimpArgs false
set_option linter.unusedVariables false
/-- What reading answers. -/
def rv (t : List UInt8) : Rt × Int := if 65536 < t.length then (⟨false, [], []⟩, 2) else (outR t, if rdOk t then 0 else 3)
theorem rv_long {t : List UInt8} (h : 65536 < t.length) : rv t = (⟨false, [], []⟩, 2) := if_pos h
theorem rv_no {t : List UInt8} (h : ¬ 65536 < t.length) (hk : rdOk t = false) : rv t = (⟨false, [], []⟩, 3) := by
  unfold rv outR; rw [if_neg h, hk]; rfl
theorem rv_yes {t : List UInt8} (h : ¬ 65536 < t.length) (hk : rdOk t = true) : rv t = (rdVal t, 0) := by
  unfold rv outR; rw [if_neg h, hk]; rfl
theorem outR_no {t : List UInt8} (hk : rdOk t = false) : outR t = ⟨false, [], []⟩ := by unfold outR; rw [hk]; rfl
theorem outR_yes {t : List UInt8} (hk : rdOk t = true) : outR t = rdVal t := by unfold outR; rw [hk]; rfl
theorem long1 {n : Nat} (h : 65536 < n) : longI 65536 [(n : Int)] = 2 := by unfold longI; rw [if_pos]; simp; omega
theorem long0 {n : Nat} (h : ¬ 65536 < n) : longI 65536 [(n : Int)] = 0 := by unfold longI; rw [if_neg]; simp; omega
theorem ReadRat_long (t : List UInt8) (ht : t.length ≤ 1048576) (h : 65536 < t.length) : CC 7 [.d (.s (strT t))] [] (.tup [.d (.agg [.b false, .sl [], .sl []]), .d (.i 2)]) [] := by
  have hsz : (strT t).size = t.length := strT_size
  have hl := long1 h
  refine Den.pureI Tryz.func7 rfl 1 [.cell 2 25, .tmp 3] (by kernel_rfl) rfl rfl (by simp only [initE_nil, initE_cons, Nat.reduceAdd]; exact rfl) ?_
  repeat' first | (with_reducible first | refine nx' ?_ (by simp -implicitDefEqProofs (disch := omega) only [go_sem, hsz, hl]; exact rfl) | refine n0 ?_ | refine Wp.drawR (by decide +kernel) ?_ | refine Wp.drawSR [2, 3, 4] [false, false, true, true, true] (.op 2 [0] (.op 3 [] (.op 4 [] .done))) (by decide +kernel) ?_ | refine n1 ?_ | refine nilB_i fun b hb => ?_ | refine nP ?_ ?_ | refine nS fun K hK => ?_ | (refine n2 ?_ ?_ <;> intro h <;> first | subst (h : _ = true) | subst (h : _ = false) | (simp only [FX, LX, hsz, hl] at h) | skip) | refine And.intro ?_ ?_ | refine nK ‹Imp _ _› ?_) | exact nl | fail
theorem ReadRat_no (t : List UInt8) (ht : t.length ≤ 1048576) (h : ¬ 65536 < t.length) (hk : rdOk t = false) : CC 7 [.d (.s (strT t))] [] (.tup [.d (.agg [.b false, .sl [], .sl []]), .d (.i 3)]) [] := by
  have hsz : (strT t).size = t.length := strT_size
  have hl := long0 h
  have hr := readRat_no t ht hk
  refine Den.pureI Tryz.func7 rfl 1 [.cell 2 25, .tmp 3] (by kernel_rfl) rfl rfl (by simp only [initE_nil, initE_cons, Nat.reduceAdd]; exact rfl) ?_
  repeat' first | (with_reducible first | refine nx' ?_ (by simp -implicitDefEqProofs (disch := omega) only [go_sem, hsz, hl]; exact rfl) | refine n0 ?_ | refine Wp.drawR (by decide +kernel) ?_ | refine Wp.drawSR [2, 3, 4] [false, false, true, true, true] (.op 2 [0] (.op 3 [] (.op 4 [] .done))) (by decide +kernel) ?_ | refine n1 ?_ | refine nilB_i fun b hb => ?_ | refine nPc (hr) ?_ | refine nP ?_ ?_ | refine nS fun K hK => ?_ | (refine n2 ?_ ?_ <;> intro h <;> first | subst (h : _ = true) | subst (h : _ = false) | (simp only [FX, LX, hsz, hl] at h) | skip) | refine And.intro ?_ ?_ | refine nK ‹Imp _ _› ?_) | exact nl | fail
theorem ReadRat_yes (t : List UInt8) (ht : t.length ≤ 1048576) (h : ¬ 65536 < t.length) (hk : rdOk t = true) : ∃ e1 e2, RdR t e1 e2 ∧ CC 7 [.d (.s (strT t))] [] (.tup [.agg [.d (.b (rdVal t).neg), .msl 1 0 (rdVal t).num.length, .msl 0 0 (rdVal t).den.length], .d (.i 0)]) [.arr 1 (e2.map .i) false, .arr 1 (e1.map .i) false] := by
  have hsz : (strT t).size = t.length := strT_size
  have hl := long0 h
  obtain ⟨e1, e2, hR, hr⟩ := readRat_yes t ht hk
  refine ⟨e1, e2, hR, ?_⟩
  generalize (rdVal t).neg = g at *
  generalize (rdVal t).num.length = a at *
  generalize (rdVal t).den.length = b at *
  refine Den.newG (vs := [.agg [.d (.b g), .msl 1 0 a, .msl 0 0 b], .d (.i 0)]) Tryz.func7 rfl 1 0 [.cell 2 25, .tmp 3] (by kernel_rfl) rfl rfl (by simp only [initE_nil, initE_cons, Nat.reduceAdd]; exact rfl) rfl rfl (by simp) rfl rfl ?_
  repeat' first | (with_reducible first | refine nx' ?_ (by simp -implicitDefEqProofs (disch := omega) only [go_sem, hsz, hl]; exact rfl) | refine n0 ?_ | refine Wp.drawR (by decide +kernel) ?_ | refine Wp.drawSR [2, 3, 4] [false, false, true, true, true] (.op 2 [0] (.op 3 [] (.op 4 [] .done))) (by decide +kernel) ?_ | refine n1 ?_ | refine nilB_i fun b hb => ?_ | refine nPn (hr) ?_ | refine nP ?_ ?_ | refine nS fun K hK => ?_ | (refine n2 ?_ ?_ <;> intro h <;> first | subst (h : _ = true) | subst (h : _ = false) | (simp only [FX, LX, hsz, hl] at h) | skip) | refine And.intro ?_ ?_ | refine nK ‹Imp _ _› ?_) | exact nl | fail
  exact finG_of [(2, .ref 2 0 0), (3, .d (.i 0))] [.var [.d (.b g), .msl 1 0 a, .msl 0 0 b] false, .arr 1 (([(t.length : Int)] : List Int).map .i) false, .var [.d (.b g), .msl 1 0 a, .msl 0 0 b] false] (Weak.perm [2, 3, 0, 1, 4] rfl rfl Weak.lo)
end Go.PL

/- DS2 -/
namespace Go.PL
open Go Go.Proofs
set_option maxRecDepth 10000
set_option maxHeartbeats 4000000
set_option linter.unusedSimpArgs false
set_option linter.unusedVariables false
instance (l : List Int) (a : Nat) (s n : Int) : ConS CC 46 [.d (.i n)] (encB l) (.i a) (.i s) (SOk l 999999999990 (a, s) ∧ 0 ≤ n ∧ n < 1000000000) (.d (.i (nexF l n (a, s)).1)) (encB l) (.i (nexF l n (a, s)).2.1) (.i (nexF l n (a, s)).2.2) := by
  constructor
  rintro os o hF ⟨h, hn0, hn1⟩
  obtain ⟨a1, a2, a3⟩ := bytF_ok h (by omega)
  obtain ⟨b1, b2, b3⟩ := bytF_ok a3 (by omega)
  obtain ⟨c1, c2, c3⟩ := bytF_ok b3 (by omega)
  have h' := h.mono (c := 1000000000000) (by omega) (by omega)
  have a3' := a3.mono (c := 1000000000000) (by omega) (by omega)
  have b3' := b3.mono (c := 1000000000000) (by omega) (by omega)
  refine Den.newG (vs := [.d (.i (nexF l n (a, s)).1)]) Tryz.func46 rfl 2 os.length [.tmp 4] (by kernel_rfl) rfl rfl (by simp only [initE_nil, initE_cons, Nat.reduceAdd]; exact rfl) rfl (by simp) (by simp) rfl (by rw [List.length_set]; exact all_set' hF.bd rfl) ?_
  unfold nexF
  by_cases k1 : n ≤ 1
  · rw [if_pos k1]
    repeat' first | (with_reducible first | refine nx' ?_ | refine n0 ?_ | refine rD ?_ | refine n1 ?_ | refine nilB_i fun b hb => ?_ | refine nPs ?_ ?_ | refine nP ?_ ?_ | refine nS fun K hK => ?_ | (refine n2 ?_ ?_ <;> intro h <;> first | subst (h : _ = true) | subst (h : _ = false) | skip) | refine And.intro ?_ ?_ | refine nK ‹Imp _ _› ?_) | exact nl | fail
    all_goals first
      | exact finG_of [(4, .d (.i 0))] [] (by rw [List.append_nil]; exact Weak.lo)
      | skip
  · rw [if_neg k1]
    by_cases k2 : n ≤ 256
    · rw [if_pos k2]
      repeat' first | (with_reducible first | refine nx' ?_ | refine n0 ?_ | refine rD ?_ | refine n1 ?_ | refine nilB_i fun b hb => ?_ | refine nPs ?_ ?_ | refine nP ?_ ?_ | refine nS fun K hK => ?_ | (refine n2 ?_ ?_ <;> intro h <;> first | subst (h : _ = true) | subst (h : _ = false) | skip) | refine And.intro ?_ ?_ | refine nK ‹Imp _ _› ?_) | exact nl | fail
      all_goals first
        | exact finG_of [(4, .d (.i ((bytF l (a, s)).1 % n)))] [] (by rw [List.append_nil]; exact Weak.lo)
        | skip
    · rw [if_neg k2]
      repeat' first | (with_reducible first | refine nx' ?_ | refine n0 ?_ | refine rD ?_ | refine n1 ?_ | refine nilB_i fun b hb => ?_ | refine nPs ?_ ?_ | refine nP ?_ ?_ | refine nS fun K hK => ?_ | (refine n2 ?_ ?_ <;> intro h <;> first | subst (h : _ = true) | subst (h : _ = false) | skip) | refine And.intro ?_ ?_ | refine nK ‹Imp _ _› ?_) | exact nl | fail
      all_goals first
        | exact finG_of [(4, .d (.i (((bytF l (a, s)).1 * 65536 + (bytF l (bytF l (a, s)).2).1 * 256 + (bytF l (bytF l (bytF l (a, s)).2).2).1) % n)))] [] (by rw [List.append_nil]; exact Weak.lo)
        | skip
instance (l : List Int) (a : Nat) (s n : Int) : ConS CC 28 [.d (.i n)] (encB l) (.i a) (.i s) (SOk l 999999999990 (a, s) ∧ 0 ≤ n ∧ n < 1000000000) (.d (.b ((nexF l n (a, s)).1 == n - 1))) (encB l) (.i (nexF l n (a, s)).2.1) (.i (nexF l n (a, s)).2.2) := by
  constructor
  rintro os o hF ⟨h, hn0, hn1⟩
  refine Den.newG (vs := [.d (.b ((nexF l n (a, s)).1 == n - 1))]) Tryz.func28 rfl 2 os.length [.tmp 4] (by kernel_rfl) rfl rfl (by simp only [initE_nil, initE_cons, Nat.reduceAdd]; exact rfl) rfl (by simp) (by simp) rfl (by rw [List.length_set]; exact all_set' hF.bd rfl) ?_
  repeat' first | (with_reducible first | refine nx' ?_ | refine n0 ?_ | refine rD ?_ | refine n1 ?_ | refine nilB_i fun b hb => ?_ | refine nPs ?_ ?_ | refine nP ?_ ?_ | refine nS fun K hK => ?_ | (refine n2 ?_ ?_ <;> intro h <;> first | subst (h : _ = true) | subst (h : _ = false) | skip) | refine And.intro ?_ ?_ | refine nK ‹Imp _ _› ?_) | exact nl | fail
  all_goals first
    | exact finG_of [(4, .d (.b ((nexF l n (a, s)).1 == n - 1)))] [] (by rw [List.append_nil]; exact Weak.lo)
    | skip
/-- A drawn natural's limbs. -/
def limF (l : List Int) (σ : Src) : Int × Src :=
  let p := nexF l 10000 σ
  let q := nexF l 9 p.2
  let r := nexF l 2 q.2
  (([p.1, 9999, 0] : List Int).getD (q.1 / 7 * (1 + r.1) % 3).toNat 0, r.2)
def limsF (l : List Int) : Nat → Src → List Int → List Int × Src
  | 0, σ, out => (out, σ)
  | k + 1, σ, out => limsF l k (limF l σ).2 (out ++ [(limF l σ).1])
def natF (l : List Int) (σ : Src) : List Int × Src := limsF l (nexF l 5 σ).1.toNat (nexF l 5 σ).2 []
theorem limF_ok {l : List Int} {b : Nat} {σ : Src} (h : SOk l b σ) (hb : b + 9 ≤ 1000000000000) : 0 ≤ (limF l σ).1 ∧ (limF l σ).1 ≤ 9999 ∧ SOk l (b + 9) (limF l σ).2 := by
  obtain ⟨a1, a2, a3⟩ := nexF_ok (n := 10000) h (by omega)
  obtain ⟨b1, b2, b3⟩ := nexF_ok (n := 9) a3 (by omega)
  obtain ⟨c1, c2, c3⟩ := nexF_ok (n := 2) b3 (by omega)
  unfold limF
  simp only
  refine ⟨?_, ?_, c3⟩
  all_goals
    have := a2 (by omega)
    generalize (nexF l 10000 σ).1 = x at *
    generalize (_ : Int).toNat = i
    match i with
    | 0 => simp; omega
    | 1 => simp
    | 2 => simp
    | i + 3 => simp
end Go.PL

/- DS3 -/
namespace Go.PL
open Go Go.Proofs
set_option maxRecDepth 10000
set_option maxHeartbeats 4000000
set_option linter.unusedSimpArgs false
set_option linter.unusedVariables false
theorem limsF_add (l : List Int) : ∀ (j k : Nat) (σ : Src) (out : List Int), limsF l (j + k) σ out = limsF l k (limsF l j σ out).2 (limsF l j σ out).1
  | 0, k, σ, out => by rw [Nat.zero_add]; rfl
  | j + 1, k, σ, out => by rw [show j + 1 + k = (j + k) + 1 by omega]; exact limsF_add l j k _ _
theorem limsF_succ (l : List Int) (j : Nat) (σ : Src) (out : List Int) : limsF l (j + 1) σ out = ((limsF l j σ out).1 ++ [(limF l (limsF l j σ out).2).1], (limF l (limsF l j σ out).2).2) := limsF_add l j 1 σ out
theorem limsF_ok {l : List Int} {b : Nat} {σ : Src} {out : List Int} (hd : Dig out) : ∀ {k : Nat}, SOk l b σ → b + 9 * k ≤ 1000000000000 → Dig (limsF l k σ out).1 ∧ (limsF l k σ out).1.length = out.length + k ∧ SOk l (b + 9 * k) (limsF l k σ out).2
  | 0, h, _ => ⟨hd, rfl, h⟩
  | k + 1, h, hb => by
    obtain ⟨h1, h2, h3⟩ := limsF_ok (k := k) hd h (by omega)
    obtain ⟨a1, a2, a3⟩ := limF_ok h3 (by omega)
    rw [limsF_succ]
    refine ⟨h1.app (.cons (by omega) (by omega) .nil), by simp [h2]; omega, a3.mono (by omega) (by omega)⟩
theorem natF_ok {l : List Int} {b : Nat} {σ : Src} (h : SOk l b σ) (hb : b + 50 ≤ 1000000000000) : Dig (natF l σ).1 ∧ (natF l σ).1.length ≤ 4 ∧ SOk l (b + 50) (natF l σ).2 := by
  obtain ⟨a1, a2, a3⟩ := nexF_ok (n := 5) h (by omega)
  have a4 := a2 (by omega)
  unfold natF
  obtain ⟨h1, h2, h3⟩ := limsF_ok (out := []) (k := (nexF l 5 σ).1.toNat) Dig.nil a3 (by omega)
  exact ⟨h1, by rw [h2]; simp; omega, h3.mono (by omega) hb⟩
/-- The drawn natural. -/
def natN (l : List Int) (σ : Src) : Nat := (val (natF l σ).1).toNat
theorem natN_trim {l : List Int} {b : Nat} {σ : Src} (h : SOk l b σ) (hb : b + 50 ≤ 1000000000000) : trim (natF l σ).1 = digs (natN l σ) := by
  have hd := (natF_ok h hb).1
  exact (digs_val hd).symm
theorem natN_len {l : List Int} {b : Nat} {σ : Src} (h : SOk l b σ) (hb : b + 50 ≤ 1000000000000) : (digs (natN l σ)).length ≤ 4 := by
  rw [← natN_trim h hb]; exact Nat.le_trans (trim_len_le _) (natF_ok h hb).2.1
theorem limF_eq (l : List Int) (σ : Src) : (limF l σ).2 = (nexF l 2 (nexF l 9 (nexF l 10000 σ).2).2).2 := rfl
set_option maxHeartbeats 4000000 in
instance (l : List Int) (a : Nat) (s : Int) : ConS CC 26 [] (encB l) (.i a) (.i s) (SOk l 999999999000 (a, s)) (.d (encD (digs (natN l (a, s))))) (encB l) (.i (natF l (a, s)).2.1) (.i (natF l (a, s)).2.2) := by
  constructor
  intro os o hF h
  obtain ⟨z1, z2, z3⟩ := nexF_ok (n := 5) h (by omega)
  have z4 := z2 (by omega)
  have ht := natN_trim h (by omega)
  have h' := h.mono (c := 999999999990) (by omega) (by omega)
  have hN : natF l (a, s) = limsF l (nexF l 5 (a, s)).1.toNat (nexF l 5 (a, s)).2 [] := rfl
  rw [← ht]
  refine Den.newG (vs := [.d (encD (trim (natF l (a, s)).1))]) Tryz.func26 rfl 1 os.length [.tmp 2] (by kernel_rfl) rfl rfl (by simp only [initE_nil, initE_cons, Nat.reduceAdd]; exact rfl) rfl (by simp) (by simp) rfl (by rw [List.length_set]; exact all_set' hF.bd rfl) ?_
  
  repeat' first | (with_reducible first | refine nx' ?_ | refine n0 ?_ | refine rD ?_ | refine n1 ?_ | refine nilB_i fun b hb => ?_ | refine nPs ?_ ?_ | refine nP ?_ ?_ | refine nS fun K hK => ?_ | (refine n2 ?_ ?_ <;> intro h <;> first | subst (h : _ = true) | subst (h : _ = false) | skip) | refine And.intro ?_ ?_ | refine nK ‹Imp _ _› ?_) | exact nl | fail
  generalize (nexF l 5 (a, s)).2 = σ at *
  generalize hm : (nexF l 5 (a, s)).1 = m at *
  obtain ⟨q, rfl⟩ : ∃ q : Nat, m = (q : Int) := ⟨m.toNat, by omega⟩
  rw [Int.toNat_natCast] at hN
  rw [hN]
  refine Wp.loopR (fun j : Nat => ⟨[(0, .ref o 0 0), (3, .msl os.length 0 (limsF l j σ []).1.length), (4, .d (.i ((q - j : Nat) : Int)))], os.set o (V3 (encB l) (.i (limsF l j σ []).2.1) (.i (limsF l j σ []).2.2)) ++ [.arr 1 ((limsF l j σ []).1.map .i) false]⟩) (fun j => q - j) (fun j => j ≤ q) 0 ?_ (by omega) ?_
  · exact Weak.lo
  rintro j hj K hK
  obtain ⟨y1, y2, y3⟩ := limsF_ok (out := []) (k := j) Dig.nil z3 (by omega)
  have hs := limsF_succ l j σ []
  generalize hP : limsF l j σ [] = P at *
  obtain ⟨out, τ⟩ := P
  simp only at hs y1 y2 y3 ⊢
  have y2' : out.length = j := by simpa using y2
  by_cases hjq : j < q
  · obtain ⟨a1, a2, a3⟩ := nexF_ok (n := 10000) y3 (by omega)
    obtain ⟨b1, b2, b3⟩ := nexF_ok (n := 9) a3 (by omega)
    obtain ⟨c1, c2, c3⟩ := nexF_ok (n := 2) b3 (by omega)
    have a4 := a2 (by omega)
    have b4 := b2 (by omega)
    have c4 := c2 (by omega)
    have y3' := y3.mono (c := 999999999990) (by omega) (by omega)
    have a3' := a3.mono (c := 999999999990) (by omega) (by omega)
    have b3' := b3.mono (c := 999999999990) (by omega) (by omega)
    obtain ⟨k, hk3, hk⟩ : ∃ k : Nat, k < 3 ∧ (nexF l 9 (nexF l 10000 τ).2).1 / 7 * (1 + (nexF l 2 (nexF l 9 (nexF l 10000 τ).2).2).1) = (k : Int) := by
      generalize (nexF l 9 (nexF l 10000 τ).2).1 = u at *
      generalize (nexF l 2 (nexF l 9 (nexF l 10000 τ).2).2).1 = v at *
      rcases (show u / 7 = 0 ∨ u / 7 = 1 by omega) with e | e <;> rw [e]
      · exact ⟨0, by omega, by omega⟩
      · exact ⟨(1 + v).toNat, by omega, by omega⟩
    have hw : IntKind.i64.wrap ((nexF l 9 (nexF l 10000 τ).2).1 / 7 * (1 + (nexF l 2 (nexF l 9 (nexF l 10000 τ).2).2).1)) = (k : Int) := by rw [hk]; exact w64 (by omega) (by omega)
    have hw2 : (nexF l 9 (nexF l 10000 τ).2).1 / 7 * (1 + (nexF l 2 (nexF l 9 (nexF l 10000 τ).2).2).1) % 3 = (k : Int) := by rw [hk]; omega
    have hk2 : (k : Int) % 3 = (k : Int) := by omega
    have hg : gd [D.val (.int .i64 (nexF l 10000 τ).1), D.val (.int .i64 9999), D.val (.int .i64 0)] k = D.val (.int .i64 (limF l τ).1) := by
      unfold limF
      simp only
      rw [hk, hk2, Int.toNat_natCast]
      rcases (show k = 0 ∨ k = 1 ∨ k = 2 by omega) with rfl | rfl | rfl <;> rfl
    have hl2 := limF_eq l τ
    repeat' first | (with_reducible first | refine nx' ?_ (by simp -implicitDefEqProofs (disch := omega) only [go_sem, hw, hw2, hk2, hg]; exact rfl) | refine n0 ?_ | refine rD ?_ | refine n1 ?_ | refine nilB_i fun b hb => ?_ | refine nPs ?_ ?_ | refine nP ?_ ?_ | refine nS fun K hK => ?_ | (refine n2 ?_ ?_ <;> intro h <;> first | subst (h : _ = true) | subst (h : _ = false) | (simp only [FX, LX, hw, hw2, hk2, hg] at h) | skip) | refine And.intro ?_ ?_ | refine nK ‹Imp _ _› ?_) | exact nl | fail
    all_goals first
      | (rw [hw2, Int.toNat_natCast, hg]; exact Nat.le_refl _)
      | skip
    refine ⟨j + 1, by omega, by omega, ?_⟩
    rw [hs, hl2]
    simp only
    refine hF.cut ?_ ?_ ?_
    · simp -implicitDefEqProofs (disch := omega) only [go_sem, sub_nil, sub_cons, LX]
      first | (congr 3; omega) | (refine ⟨?_, ?_⟩ <;> first | rfl | trivial | (congr 3; omega))
    · have := hF.lt
      simp [V.bnd, V.bnd1]; omega
    · rfl
  · obtain rfl : j = q := by omega
    repeat' first | (with_reducible first | refine nx' ?_ | refine n0 ?_ | refine rD ?_ | refine n1 ?_ | refine nilB_i fun b hb => ?_ | refine nPs ?_ ?_ | refine nP ?_ ?_ | refine nS fun K hK => ?_ | (refine n2 ?_ ?_ <;> intro h <;> first | subst (h : _ = true) | subst (h : _ = false) | skip) | refine And.intro ?_ ?_ | refine nK ‹Imp _ _› ?_) | exact nl | fail
    rw [hN, hP]
    exact finG_of [(2, .d (encD (trim out)))] [.arr 1 (out.map .i) true] Weak.lo
end Go.PL

/- DS4 -/
namespace Go.PL
open Go Go.Proofs
set_option maxRecDepth 10000
set_option maxHeartbeats 4000000
set_option linter.unusedSimpArgs false
set_option linter.unusedVariables false
/-- A drawn rational. -/
def wideF (l : List Int) (σ : Src) : Q × Src :=
  let d := natN l σ
  let σ1 := (natF l σ).2
  let b := (nexF l 2 σ1).1 == 2 - 1
  let σ2 := (nexF l 2 σ1).2
  (mkQ b (natN l σ2) (if d = 0 then 1 else d), (natF l σ2).2)
instance (l : List Int) (a : Nat) (s : Int) : ConS CC 13 [] (encB l) (.i a) (.i s) (SOk l 999999990000 (a, s)) (.d (encQ (wideF l (a, s)).1)) (encB l) (.i (wideF l (a, s)).2.1) (.i (wideF l (a, s)).2.2) := by
  constructor
  intro os o hF h
  obtain ⟨a1, a2, a3⟩ := natF_ok h (by omega)
  have a4 := natN_len h (by omega)
  obtain ⟨b1, b2, b3⟩ := nexF_ok (n := 2) a3 (by omega)
  obtain ⟨c1, c2, c3⟩ := natF_ok b3 (by omega)
  have c4 := natN_len b3 (by omega)
  have h' := h.mono (c := 999999999000) (by omega) (by omega)
  have a3' := a3.mono (c := 999999999990) (by omega) (by omega)
  have b3' := b3.mono (c := 999999999000) (by omega) (by omega)
  have hd1 : (digs 1).length = 1 := by rw [digs_one]; rfl
  refine Den.newG (vs := [.d (encQ (wideF l (a, s)).1)]) Tryz.func13 rfl 1 os.length [.cell 2 25] (by kernel_rfl) rfl rfl (by simp only [initE_nil, initE_cons, Nat.reduceAdd]; exact rfl) rfl (by simp) (by simp) rfl (by rw [List.length_set]; exact all_set' hF.bd rfl) ?_
  
  by_cases h0 : natN l (a, s) = 0
  · have e0 : (digs (natN l (a, s))).length = 0 := by rw [h0, digs_zero]; rfl
    have e : wideF l (a, s) = (mkQ ((nexF l 2 (natF l (a, s)).2).1 == 2 - 1) (natN l (nexF l 2 (natF l (a, s)).2).2) 1, (natF l (nexF l 2 (natF l (a, s)).2).2).2) := by unfold wideF; simp only [h0, if_true]
    have hL : CC 27 [.d (.b ((nexF l 2 (natF l (a, s)).2).1 == 2 - 1)), .d (encD (digs (natN l (nexF l 2 (natF l (a, s)).2).2))), .d (encD [1])] [] (.d (encQ (mkQ ((nexF l 2 (natF l (a, s)).2).1 == 2 - 1) (natN l (nexF l 2 (natF l (a, s)).2).2) 1))) [] := by
      rw [← digs_one]; exact Con.ok (C := CC) ⟨by omega, by omega, by omega⟩
    rw [e]
    repeat' first | (with_reducible first | refine nx' ?_ (by simp -implicitDefEqProofs (disch := omega) only [go_sem, e0]; exact rfl) | refine n0 ?_ | refine rD ?_ | refine n1 ?_ | refine nilB_i fun b hb => ?_ | refine nPc (hL) ?_ | refine nPs ?_ ?_ | refine nP ?_ ?_ | refine nS fun K hK => ?_ | (refine n2 ?_ ?_ <;> intro h <;> first | subst (h : _ = true) | subst (h : _ = false) | (simp only [FX, LX, e0] at h) | skip) | refine And.intro ?_ ?_ | refine nK ‹Imp _ _› ?_) | exact nl | fail
    exact finG_of [(2, .ref os.length 0 0)] [.var [.d (.b (mkQ ((nexF l 2 (natF l (a, s)).2).1 == 2 - 1) (natN l (nexF l 2 (natF l (a, s)).2).2) 1).neg), .d (encD (digs (mkQ ((nexF l 2 (natF l (a, s)).2).1 == 2 - 1) (natN l (nexF l 2 (natF l (a, s)).2).2) 1).n)), .d (encD (digs (mkQ ((nexF l 2 (natF l (a, s)).2).1 == 2 - 1) (natN l (nexF l 2 (natF l (a, s)).2).2) 1).d))] false, .arr 1 (([1] : List Int).map .i) true] Weak.lo (by simp -implicitDefEqProofs (disch := omega) only [go_sem])
  · have e0 : (digs (natN l (a, s))).length ≠ 0 := fun q => h0 (by have := digs_len0 (n := natN l (a, s)); omega)
    have e : wideF l (a, s) = (mkQ ((nexF l 2 (natF l (a, s)).2).1 == 2 - 1) (natN l (nexF l 2 (natF l (a, s)).2).2) (natN l (a, s)), (natF l (nexF l 2 (natF l (a, s)).2).2).2) := by unfold wideF; simp only [h0, if_false]
    have hp : 0 < natN l (a, s) := by omega
    rw [e]
    repeat' first | (with_reducible first | refine nx' ?_ | refine n0 ?_ | refine rD ?_ | refine n1 ?_ | refine nilB_i fun b hb => ?_ | refine nPs ?_ ?_ | refine nP ?_ ?_ | refine nS fun K hK => ?_ | (refine n2 ?_ ?_ <;> intro h <;> first | subst (h : _ = true) | subst (h : _ = false) | skip) | refine And.intro ?_ ?_ | refine nK ‹Imp _ _› ?_) | exact nl | fail
    exact finG_of [(2, .ref os.length 0 0)] [.var [.d (.b (mkQ ((nexF l 2 (natF l (a, s)).2).1 == 2 - 1) (natN l (nexF l 2 (natF l (a, s)).2).2) (natN l (a, s))).neg), .d (encD (digs (mkQ ((nexF l 2 (natF l (a, s)).2).1 == 2 - 1) (natN l (nexF l 2 (natF l (a, s)).2).2) (natN l (a, s))).n)), .d (encD (digs (mkQ ((nexF l 2 (natF l (a, s)).2).1 == 2 - 1) (natN l (nexF l 2 (natF l (a, s)).2).2) (natN l (a, s))).d))] false] Weak.lo (by simp -implicitDefEqProofs (disch := omega) only [go_sem])
instance (l : List Int) : Con CC 4 [.d (encB l)] (Byt l ∧ l.length ≤ 1048576) (.d (encQ (wideF l (0, (l.length : Int) % 1000)).1)) := by
  constructor
  intro ⟨hb, hl⟩
  have hS : SOk l 999999990000 (0, (l.length : Int) % 1000) := ⟨hb, hl, by simp, by omega, by simp only; omega, by simp only; omega⟩
  have cS : CC 12 [.d (encB l)] [.var [.d (.val (.bool false)), .d (.val (.slice none 0 0)), .d (.val (.slice none 0 0))] false] (.ref 1 0 0) [.var [.d (.val (.bool false)), .d (.val (.slice none 0 0)), .d (.val (.slice none 0 0))] false, V3 (encB l) (.i ((0 : Nat) : Int)) (.i ((l.length : Int) % 1000))] := by
    refine Den.newG (vs := [.ref 1 0 0]) Tryz.func12 rfl 1 1 [.tmp 2] (by kernel_rfl) rfl rfl (by simp only [initE_nil, initE_cons, Nat.reduceAdd]; exact rfl) rfl rfl (by simp) rfl rfl ?_
    repeat' first | (with_reducible first | refine nx' ?_ | refine n0 ?_ | refine rD ?_ | refine n1 ?_ | refine nilB_i fun b hb => ?_ | refine nP ?_ ?_ | refine nS fun K hK => ?_ | (refine n2 ?_ ?_ <;> intro h <;> first | subst (h : _ = true) | subst (h : _ = false) | skip) | refine And.intro ?_ ?_ | refine nK ‹Imp _ _› ?_) | exact nl | fail
    exact finG_of [(2, .ref 1 0 0)] [] Weak.lo
  refine Den.pureI Tryz.func4 rfl 1 [.cell 2 25] (by kernel_rfl) rfl rfl (by simp only [initE_nil, initE_cons, Nat.reduceAdd]; exact rfl) ?_
  repeat' first | (with_reducible first | refine nx' ?_ | refine n0 ?_ | refine rD ?_ | refine n1 ?_ | refine nilB_i fun b hb => ?_ | refine nPm (cS) ?_ | refine nPs ?_ ?_ | refine nP ?_ ?_ | refine nS fun K hK => ?_ | (refine n2 ?_ ?_ <;> intro h <;> first | subst (h : _ = true) | subst (h : _ = false) | skip) | refine And.intro ?_ ?_ | refine nK ‹Imp _ _› ?_) | exact nl | fail
end Go.PL
