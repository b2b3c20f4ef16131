/- A plain machine, sound for the given model, and contracts of functions over it, part 28: EI. Nothing is assumed. -/
import Derived.Test.YticeamhfobihpaaDoorEH
set_option linter.unusedSimpArgs false
set_option linter.unusedVariables false
set_option linter.unusedSectionVars false
/- EI -/
namespace Go.PL
open Go Go.Proofs
set_option maxRecDepth 10000
set_option linter.unusedSimpArgs false
set_option linter.unusedVariables false
abbrev e0 : ByteArray := ByteArray.empty
/-- A part's text within another. -/
def inn (l : List Nd) (ts : List ByteArray) (k : Nat) (pw : Bool) : ByteArray :=
  if kidsN (l.getD k nd0).op = 2 ∨ (pw = true ∧ kidsN (l.getD k nd0).op = 1) then ByteArray.mk #[40] ++ ts.getD k e0 ++ ByteArray.mk #[41] else ts.getD k e0
/-- A node's text, from those before it. -/
def textN (l : List Nd) (ts : List ByteArray) (x : Nd) : ByteArray :=
  if x.op = 1 then digB x.n.toNat
  else if x.op = 2 then ByteArray.mk #[120] ++ digB x.n.toNat
  else if x.op = 7 then ByteArray.mk #[45] ++ inn l ts x.a.toNat false
  else if x.op = 8 then inn l ts x.a.toNat true ++ ByteArray.mk #[94] ++ digB x.n.toNat
  else inn l ts x.a.toNat false ++ ByteArray.mk #[32] ++ signB x.op ++ ByteArray.mk #[32] ++ inn l ts x.b.toNat false
def texts (l : List Nd) : Nat → List ByteArray
  | 0 => []
  | i + 1 => texts l i ++ [textN l (texts l i) (l.getD i nd0)]
theorem texts_len (l : List Nd) : ∀ i, (texts l i).length = i
  | 0 => rfl
  | i + 1 => by rw [texts, List.length_append, texts_len l i]; rfl
theorem getD_appB {a b : List ByteArray} {k : Nat} (h : k < a.length) : (a ++ b).getD k e0 = a.getD k e0 := by
  simp [List.getD, List.getElem?_append_left h]
theorem texts_pre (l : List Nd) {i k : Nat} (hk : k < i) : ∀ n, i ≤ n → (texts l n).getD k e0 = (texts l i).getD k e0
  | 0, hn => by omega
  | n + 1, hn => by
    by_cases e : i = n + 1
    · rw [e]
    · rw [texts, getD_appB (by rw [texts_len]; omega)]
      exact texts_pre l hk n (by omega)
theorem texts_last (l : List Nd) (i : Nat) : (texts l (i + 1)).getD i e0 = textN l (texts l i) (l.getD i nd0) := by
  have := texts_len l i
  rw [texts]
  simp [List.getD, this]
theorem inn_size (l : List Nd) (ts : List ByteArray) (k : Nat) (pw : Bool) : (inn l ts k pw).size ≤ (ts.getD k e0).size + 2 := by
  have e1 : (ByteArray.mk #[40]).size = 1 := rfl
  have e2 : (ByteArray.mk #[41]).size = 1 := rfl
  unfold inn; split
  · rw [ByteArray.size_append, ByteArray.size_append]; omega
  · omega
theorem signB_size (o : Int) : (signB o).size = 1 := by unfold signB; (repeat' split) <;> rfl
theorem numOk_bnd {o n : Int} (h : numOk o n = true) : 0 ≤ n ∧ n ≤ 999999999 := by
  unfold numOk at h
  (repeat' split at h) <;> simp only [decide_eq_true_eq] at h <;> omega
theorem plOk_num {x : Nd} {p : Int} (h : plOk x p = true) : (1 ≤ x.op ∧ x.op ≤ 8) ∧ 0 ≤ x.n ∧ x.n ≤ 999999999 := by
  unfold plOk at h
  simp only [Bool.and_eq_true, decide_eq_true_eq] at h
  exact ⟨h.1.1.1, numOk_bnd h.1.1.2⟩
theorem texts_sz {l : List Nd} {n : Nat} {bg dp : List Int} (hs : shp l n = some (bg, dp)) : ∀ i, i ≤ n → ∀ j, j < i → ((texts l i).getD j e0).size + 10000000000 ≤ 10000000000 * 2 ^ (dp.getD j 0).toNat
  | 0, _, j, hj => by omega
  | i + 1, hi, j, hj => by
    obtain ⟨lb, ld, hat, hbb, hdb⟩ := shp_spec hs
    have ih := texts_sz hs i (by omega)
    by_cases e : j = i
    · subst e
      rw [texts_last]
      obtain ⟨hp, q1, q2, q0⟩ := nstep_inv (hat j (by omega))
      obtain ⟨ka, kb⟩ := plOk_kids hp
      obtain ⟨hop, hn⟩ := plOk_num hp
      have hko := kids_one (l.getD j nd0).op
      have hkt := kids_two (l.getD j nd0).op
      generalize hx : l.getD j nd0 = x at *
      have hg := digB_size x.n.toNat
      have i1 := inn_size l (texts l j) x.a.toNat false
      have i2 := inn_size l (texts l j) x.a.toNat true
      have i3 := inn_size l (texts l j) x.b.toNat false
      have e1 : (ByteArray.mk #[120]).size = 1 := rfl
      have e2 : (ByteArray.mk #[45]).size = 1 := rfl
      have e3 : (ByteArray.mk #[94]).size = 1 := rfl
      have e4 : (ByteArray.mk #[32]).size = 1 := rfl
      have e5 := signB_size x.op
      have hd := hdb j (by omega)
      have p1 : 1 ≤ 2 ^ (dp.getD j 0).toNat := Nat.one_le_two_pow
      have p2 : 2 ≤ 2 ^ (dp.getD j 0).toNat := by
        have : 2 ^ 1 ≤ 2 ^ (dp.getD j 0).toNat := Nat.pow_le_pow_right (by omega) (by omega)
        omega
      unfold textN
      by_cases o1 : x.op = 1
      · rw [if_pos o1]; omega
      by_cases o2 : x.op = 2
      · rw [if_neg o1, if_pos o2, ByteArray.size_append]; omega
      by_cases o78 : x.op = 7 ∨ x.op = 8
      · obtain ⟨r1, r2, r3⟩ := q1 (hko.2 o78)
        have ha := ka (by have := hko.2 o78; omega)
        have iha := ih x.a.toNat (by omega)
        have hda := hdb x.a.toNat (by omega)
        have pe : 2 ^ (dp.getD j 0).toNat = 2 * 2 ^ (dp.getD x.a.toNat 0).toNat := by
          rw [show (dp.getD j 0).toNat = (dp.getD x.a.toNat 0).toNat + 1 by omega, Nat.pow_succ, Nat.mul_comm]
        rw [pe]
        by_cases o7 : x.op = 7
        · rw [if_neg o1, if_neg o2, if_pos o7, ByteArray.size_append]; omega
        · rw [if_neg o1, if_neg o2, if_neg o7, if_pos (by omega), ByteArray.size_append, ByteArray.size_append]; omega
      · have k2 := hkt.2 (by omega)
        obtain ⟨r1, r2, r3, r4⟩ := q2 k2
        have ha := ka (by omega)
        have hb := kb (by omega)
        have iha := ih x.a.toNat (by omega)
        have ihb := ih x.b.toNat (by omega)
        have hda := hdb x.a.toNat (by omega)
        have hdb2 := hdb x.b.toNat (by omega)
        have pa : 2 ^ (dp.getD x.a.toNat 0).toNat ≤ 2 ^ ((dp.getD j 0).toNat - 1) := Nat.pow_le_pow_right (by omega) (by omega)
        have pb : 2 ^ (dp.getD x.b.toNat 0).toNat ≤ 2 ^ ((dp.getD j 0).toNat - 1) := Nat.pow_le_pow_right (by omega) (by omega)
        have pe : 2 ^ (dp.getD j 0).toNat = 2 * 2 ^ ((dp.getD j 0).toNat - 1) := by
          rw [show (dp.getD j 0).toNat = ((dp.getD j 0).toNat - 1) + 1 by omega, Nat.pow_succ, Nat.mul_comm]; rfl
        rw [pe, if_neg o1, if_neg o2, if_neg (by omega), if_neg (by omega)]
        simp only [ByteArray.size_append]
        omega
    · rw [texts, getD_appB (by rw [texts_len]; omega)]
      exact ih j (by omega)
theorem texts_fin {l : List Nd} {n : Nat} {bg dp : List Int} (hs : shp l n = some (bg, dp)) (hd : ∀ t, t < n → dp.getD t 0 ≤ 12) (i : Nat) (hi : i ≤ n) (j : Nat) (hj : j < i) : ((texts l i).getD j e0).size ≤ 40960000000000 := by
  have h1 := texts_sz hs i hi j hj
  have h2 := hd j (by omega)
  have h3 : 2 ^ (dp.getD j 0).toNat ≤ 2 ^ 12 := Nat.pow_le_pow_right (by omega) (by omega)
  omega
theorem texts_eq {l : List Nd} {n : Nat} {bg dp : List Int} (hs : shp l n = some (bg, dp)) {j : Nat} (hj : j < n) : (texts l n).getD j e0 = textN l (texts l n) (l.getD j nd0) := by
  obtain ⟨lb, ld, hat, hbb, hdb⟩ := shp_spec hs
  obtain ⟨hp, q1, q2, q0⟩ := nstep_inv (hat j hj)
  obtain ⟨ka, kb⟩ := plOk_kids hp
  obtain ⟨hop, hn⟩ := plOk_num hp
  have hko := kids_one (l.getD j nd0).op
  have hkt := kids_two (l.getD j nd0).op
  rw [texts_pre l (Nat.lt_succ_self j) n (by omega), texts_last]
  have key : ∀ k pw, k < j → inn l (texts l n) k pw = inn l (texts l j) k pw := fun k pw hk => by
    unfold inn; rw [texts_pre l hk n (by omega)]
  unfold textN
  by_cases o1 : (l.getD j nd0).op = 1
  · rw [if_pos o1, if_pos o1]
  by_cases o2 : (l.getD j nd0).op = 2
  · rw [if_neg o1, if_pos o2, if_neg o1, if_pos o2]
  have hk : 0 < kidsN (l.getD j nd0).op := by
    by_cases o78 : (l.getD j nd0).op = 7 ∨ (l.getD j nd0).op = 8
    · have := hko.2 o78; omega
    · have := hkt.2 (by omega); omega
  have ha := ka hk
  rw [key _ _ (by omega), key _ _ (by omega)]
  by_cases o7 : (l.getD j nd0).op = 7
  · simp only [if_neg o1, if_neg o2, if_pos o7]
  by_cases o8 : (l.getD j nd0).op = 8
  · simp only [if_neg o1, if_neg o2, if_neg o7, if_pos o8]
  have hb := kb (by have := hkt.2 (by omega); omega)
  rw [key _ _ (by omega)]
end Go.PL
