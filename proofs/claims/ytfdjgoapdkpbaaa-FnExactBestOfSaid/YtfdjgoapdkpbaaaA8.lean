/- A plain machine, sound for the given model, and contracts of functions over it, part 24: A8. Nothing is assumed. -/
import Derived.Test.YtfdjgoapdkpbaaaA7
set_option linter.unusedSimpArgs false
set_option linter.unusedVariables false
set_option linter.unusedSectionVars false
/- A8 -/
namespace Go.PL
open Go Go.Proofs
set_option maxRecDepth 10000
set_option maxHeartbeats 4000000
set_option linter.unusedSimpArgs false
set_option linter.unusedVariables false
/-- The first limbs of a number, as many as are asked for. -/
def pad (k n : Nat) : List Int := (List.range k).map fun i => ((n / 10000 ^ i % 10000 : Nat) : Int)
theorem digit_top {b L : List Int} {j : Nat} (hdL : Dig L) (hdb : Dig b) (hb2 : 2 ≤ b.length) (hL : j + b.length + 1 ≤ L.length) (hD0 : 0 < b.getD (b.length - 1) 0 * 10000 + b.getD (b.length - 2) 0) (hv : val ((L.drop j).take (b.length + 1)) < 10000 * val b)
    : 0 ≤ (if 9999 < ((L.getD (j + b.length) 0 * 10000 + L.getD (j + (b.length - 1)) 0) * 10000 + L.getD (j + (b.length - 2)) 0) / (b.getD (b.length - 1) 0 * 10000 + b.getD (b.length - 2) 0) then 9999 else ((L.getD (j + b.length) 0 * 10000 + L.getD (j + (b.length - 1)) 0) * 10000 + L.getD (j + (b.length - 2)) 0) / (b.getD (b.length - 1) 0 * 10000 + b.getD (b.length - 2) 0)) ∧
      (if 9999 < ((L.getD (j + b.length) 0 * 10000 + L.getD (j + (b.length - 1)) 0) * 10000 + L.getD (j + (b.length - 2)) 0) / (b.getD (b.length - 1) 0 * 10000 + b.getD (b.length - 2) 0) then 9999 else ((L.getD (j + b.length) 0 * 10000 + L.getD (j + (b.length - 1)) 0) * 10000 + L.getD (j + (b.length - 2)) 0) / (b.getD (b.length - 1) 0 * 10000 + b.getD (b.length - 2) 0)) ≤ 9999 ∧
      val ((L.drop j).take (b.length + 1)) < ((if 9999 < ((L.getD (j + b.length) 0 * 10000 + L.getD (j + (b.length - 1)) 0) * 10000 + L.getD (j + (b.length - 2)) 0) / (b.getD (b.length - 1) 0 * 10000 + b.getD (b.length - 2) 0) then 9999 else ((L.getD (j + b.length) 0 * 10000 + L.getD (j + (b.length - 1)) 0) * 10000 + L.getD (j + (b.length - 2)) 0) / (b.getD (b.length - 1) 0 * 10000 + b.getD (b.length - 2) 0)) + 1) * val b := by
  have g0 := hdL.get (j + b.length)
  have g1 := hdL.get (j + (b.length - 1))
  have g2 := hdL.get (j + (b.length - 2))
  have gd : ∀ k, (L.drop j).getD k 0 = L.getD (j + k) 0 := fun k => by simp [List.getD, List.getElem?_drop]
  have hR : val ((L.drop j).take (b.length + 1)) < 10000 ^ (b.length - 2) * ((L.getD (j + b.length) 0 * 10000 + L.getD (j + (b.length - 1)) 0) * 10000 + L.getD (j + (b.length - 2)) 0 + 1) := by
    have h1 := val_lt ((hdL.drop j).take (b.length - 2))
    rw [List.length_take, List.length_drop, Nat.min_eq_left (by omega)] at h1
    obtain ⟨n, hn⟩ : ∃ n, b.length = n + 2 := ⟨b.length - 2, by omega⟩
    rw [hn] at h1 ⊢
    simp only [Nat.add_sub_cancel, show n + 2 - 1 = n + 1 by omega] at h1 ⊢
    rw [val_take, val_take, val_take, gd, gd, gd]
    generalize val ((L.drop j).take n) = v at *
    simp only [Int.pow_succ]
    generalize L.getD (j + n) 0 = u0 at *
    generalize L.getD (j + (n + 1)) 0 = u1 at *
    generalize L.getD (j + (n + 2)) 0 = u2 at *
    clear g0 g1 g2 gd hL hv hD0
    generalize (10000 : Int) ^ n = p at *
    have e : p * ((u2 * 10000 + u1) * 10000 + u0 + 1) = p + p * u0 + p * 10000 * u1 + p * 10000 * 10000 * u2 := by grind
    omega
  have hB : 10000 ^ (b.length - 2) * (b.getD (b.length - 1) 0 * 10000 + b.getD (b.length - 2) 0) ≤ val b := by
    have h1 := val_nonneg (hdb.take (b.length - 2))
    obtain ⟨n, hn⟩ : ∃ n, b.length = n + 2 := ⟨b.length - 2, by omega⟩
    have h2 : val b = val (b.take (n + 2)) := by rw [List.take_of_length_le (by omega)]
    rw [h2]
    rw [hn] at h1 ⊢
    simp only [Nat.add_sub_cancel, show n + 2 - 1 = n + 1 by omega] at h1 ⊢
    rw [val_take, val_take]
    generalize val (b.take n) = v at *
    rw [Int.pow_succ]
    generalize (10000 : Int) ^ n = p at *
    grind
  generalize b.getD (b.length - 1) 0 * 10000 + b.getD (b.length - 2) 0 = D at *
  have hH : 0 ≤ (L.getD (j + b.length) 0 * 10000 + L.getD (j + (b.length - 1)) 0) * 10000 + L.getD (j + (b.length - 2)) 0 := by omega
  generalize (L.getD (j + b.length) 0 * 10000 + L.getD (j + (b.length - 1)) 0) * 10000 + L.getD (j + (b.length - 2)) 0 = H at *
  have hq := Int.ediv_nonneg hH (Int.le_of_lt hD0)
  have hlt := Int.lt_ediv_add_one_mul_self H hD0
  have hp : (0 : Int) < 10000 ^ (b.length - 2) := Int.pow_pos (by omega)
  generalize (10000 : Int) ^ (b.length - 2) = p at *
  split
  · exact ⟨by omega, by omega, by omega⟩
  · refine ⟨hq, by omega, ?_⟩
    generalize H / D = q at *
    have h1 : p * (H + 1) ≤ p * ((q + 1) * D) := Int.mul_le_mul_of_nonneg_left (by omega) (by omega)
    have h2 : (q + 1) * (p * D) ≤ (q + 1) * val b := Int.mul_le_mul_of_nonneg_left hB (by omega)
    have h3 : p * ((q + 1) * D) = (q + 1) * (p * D) := by grind
    omega
theorem negdiv {x : Int} (h : x < 0) (h2 : -100000000 ≤ x) : IntKind.i64.wrap ((x - 10000 + 1).tdiv 10000) = x / 10000 := by
  have e : (x - 10000 + 1).tdiv 10000 = x / 10000 := by
    have h3 : x - 10000 + 1 = -(10000 - 1 - x) := by omega
    rw [h3, Int.neg_tdiv, Int.tdiv_eq_ediv_of_nonneg (by omega)]
    omega
  rw [e]; exact wrap_id (by omega) (by omega)
theorem getD_drop0 (l : List Int) (j k : Nat) : (l.drop j).getD k 0 = l.getD (j + k) 0 := by simp [List.getD, List.getElem?_drop]
theorem dset {l L : List Int} {j i : Nat} (hj : j + i < l.length) (hlt : l.take j = L.take j) (hld : l.drop (j + i) = L.drop (j + i)) (hd : Dig l) {y : Int} (h0 : 0 ≤ y) (h1 : y < 10000) :
    (l.set (j + i) y).length = l.length ∧ (l.set (j + i) y).take j = L.take j ∧ (l.set (j + i) y).drop (j + (i + 1)) = L.drop (j + (i + 1)) ∧ Dig (l.set (j + i) y) ∧
      val (((l.set (j + i) y).drop j).take (i + 1)) = val ((l.drop j).take i) + 10000 ^ i * y := by
  refine ⟨by simp, by rw [List.take_set_of_le (by omega), hlt], ?_, hd.set _ h0 h1, ?_⟩
  · rw [List.drop_set_of_lt (by omega), ← Nat.add_assoc, ← List.drop_drop (i := 1) (j := j + i), ← List.drop_drop (i := 1) (j := j + i), hld]
  · rw [val_take, getD_drop0]
    have e1 : ((l.set (j + i) y).drop j).take i = (l.drop j).take i := by
      rw [List.drop_set, if_neg (by omega), List.take_set_of_le (by omega)]
    rw [e1]; congr 2; simp [List.getD, hj]
theorem dstep {l L b : List Int} {j i : Nat} {c q x d : Int} (hj : j + i < l.length) (hlt : l.take j = L.take j) (hld : l.drop (j + i) = L.drop (j + i)) (hd : Dig l)
    (hv : val ((l.drop j).take i) + 10000 ^ i * c = val ((L.drop j).take i) - q * val (b.take i)) (hx : x = l.getD (j + i) 0 + c - q * b.getD i 0) (h0 : 0 ≤ x - d * 10000) (h1 : x - d * 10000 < 10000) :
    (l.set (j + i) (x - d * 10000)).length = l.length ∧ (l.set (j + i) (x - d * 10000)).take j = L.take j ∧ (l.set (j + i) (x - d * 10000)).drop (j + (i + 1)) = L.drop (j + (i + 1)) ∧ Dig (l.set (j + i) (x - d * 10000)) ∧
      val (((l.set (j + i) (x - d * 10000)).drop j).take (i + 1)) + 10000 ^ (i + 1) * d = val ((L.drop j).take (i + 1)) - q * val (b.take (i + 1)) := by
  obtain ⟨a1, a2, a3, a4, a5⟩ := dset hj hlt hld hd h0 h1
  refine ⟨a1, a2, a3, a4, ?_⟩
  have eL : L.getD (j + i) 0 = l.getD (j + i) 0 := by
    have h := congrArg (fun z => z.getD 0 0) hld
    simp only [getD_drop0, Nat.add_zero] at h
    exact h.symm
  rw [a5, val_take (L.drop j), val_take b, getD_drop0, eL, Int.pow_succ]
  generalize (10000 : Int) ^ i = p at *
  generalize l.getD (j + i) 0 = u at *
  generalize b.getD i 0 = w at *
  clear a1 a2 a3 a4 a5
  subst hx
  grind
theorem pad_succ (k n : Nat) : pad (k + 1) n = ((n % 10000 : Nat) : Int) :: pad k (n / 10000) := by
  unfold pad
  rw [List.range_succ_eq_map, List.map_cons, List.map_map]
  congr 1
  · simp
  · refine List.map_congr_left fun i _ => ?_
    simp only [Function.comp, Nat.pow_succ, Nat.succ_eq_add_one]
    rw [Nat.mul_comm, Nat.div_div_eq_div_mul]
theorem pad_val {a : List Int} (h : Dig a) : pad a.length (val a).toNat = a := by
  induction a with
  | nil => rfl
  | cons x r ih =>
    have h1 := h.head
    have h2 := val_nonneg h.tail
    have e : val (x :: r) = x + 10000 * val r := rfl
    have e1 : ((val (x :: r)).toNat % 10000 : Nat) = x.toNat := by rw [e]; omega
    have e2 : (val (x :: r)).toNat / 10000 = (val r).toNat := by rw [e]; omega
    rw [List.length_cons, pad_succ, e1, e2, ih h.tail]
    congr 1; omega
set_option maxHeartbeats 4000000 in
theorem natDigit_c (b L : List Int) (j : Nat) (x0 x2 : Ob) (h0 : x0.bnd 3 = true) (h2 : x2.bnd 3 = true) (hL : j + b.length + 1 ≤ L.length) (hlen : L.length < 1048576) (hb2 : 2 ≤ b.length) (hdL : Dig L) (hdb : Dig b) (htop : b.getD (b.length - 1) 0 ≠ 0)
    (hv : val ((L.drop j).take (b.length + 1)) < 10000 * val b) :
    Den Try.prog TT Xn 82 [.msl 1 j (b.length + 1), .d (encD b)] [x0, .arr 1 (L.map .i) false, x2] (.d (.i (val ((L.drop j).take (b.length + 1)) / val b)))
      [x0, .arr 1 ((L.take j ++ pad (b.length + 1) (val ((L.drop j).take (b.length + 1)) % val b).toNat ++ L.drop (j + b.length + 1)).map .i) false, x2] := by
  refine Den.mutI Try.func82 rfl 2 3 (by kernel_rfl) rfl rfl (by simp only [initE_nil, initE_cons, Nat.reduceAdd]; exact rfl) rfl rfl (by simp only [List.all_cons, h0, h2, Bool.true_and, List.all_nil, Bool.and_true]; rfl) ?_
  have g0 := hdL.get (j + b.length)
  have g1 := hdL.get (j + (b.length - 1))
  have g2 := hdL.get (j + (b.length - 2))
  have k1 := hdb.get (b.length - 1)
  have k2 := hdb.get (b.length - 2)
  have e1 : ((b.length : Int) - 1).toNat = b.length - 1 := by omega
  have e2 : ((b.length : Int) - 2).toNat = b.length - 2 := by omega
  have hH0 : 0 ≤ (L.getD (j + b.length) 0 * 10000 + L.getD (j + (b.length - 1)) 0) * 10000 + L.getD (j + (b.length - 2)) 0 := by omega
  have hH1 : (L.getD (j + b.length) 0 * 10000 + L.getD (j + (b.length - 1)) 0) * 10000 + L.getD (j + (b.length - 2)) 0 < 1000000000000 := by omega
  have hD0 : 0 < b.getD (b.length - 1) 0 * 10000 + b.getD (b.length - 2) 0 := by omega
  have hw : IntKind.i64.wrap (((L.getD (j + b.length) 0 * 10000 + L.getD (j + (b.length - 1)) 0) * 10000 + L.getD (j + (b.length - 2)) 0) / (b.getD (b.length - 1) 0 * 10000 + b.getD (b.length - 2) 0)) =
      ((L.getD (j + b.length) 0 * 10000 + L.getD (j + (b.length - 1)) 0) * 10000 + L.getD (j + (b.length - 2)) 0) / (b.getD (b.length - 1) 0 * 10000 + b.getD (b.length - 2) 0) := by
    have h1 := Int.ediv_nonneg hH0 (Int.le_of_lt hD0)
    have h2 := Int.ediv_le_self (b.getD (b.length - 1) 0 * 10000 + b.getD (b.length - 2) 0) hH0
    exact wrap_id (by omega) (by omega)
  repeat' first | (with_reducible first | refine nx' ?_ (by simp -implicitDefEqProofs (disch := omega) only [go_sem, e1, e2, hw]; exact rfl) | refine n0 ?_ | refine rD ?_ | refine n1 ?_ | refine nilB_i fun b hb => ?_ | refine nP ?_ ?_ | refine nS fun K hK => ?_ | (refine n2 ?_ ?_ <;> intro h <;> first | subst (h : _ = true) | subst (h : _ = false) | (simp only [FX, LX, e1, e2, hw] at h) | skip) | refine And.intro ?_ ?_ | refine nK ‹Imp _ _› ?_) | exact nl | fail
  have hq1 := digit_top (L := L) (j := j) hdL hdb hb2 hL hD0 hv
  generalize (if 9999 < ((L.getD (j + b.length) 0 * 10000 + L.getD (j + (b.length - 1)) 0) * 10000 + L.getD (j + (b.length - 2)) 0) / (b.getD (b.length - 1) 0 * 10000 + b.getD (b.length - 2) 0) then 9999 else ((L.getD (j + b.length) 0 * 10000 + L.getD (j + (b.length - 1)) 0) * 10000 + L.getD (j + (b.length - 2)) 0) / (b.getD (b.length - 1) 0 * 10000 + b.getD (b.length - 2) 0)) = q at hq1 ⊢
  obtain ⟨hq0, hq9, hqv⟩ := hq1
  clear g0 g1 g2 k1 k2 hH0 hH1 hD0 hw e1 e2
  refine Wp.loopR (fun x : Nat × Int × List Int => ⟨[(0, .msl 1 j (b.length + 1)), (1, .d (encD b)), (5, .d (.i b.length)), (7, .d (.i q)), (8, .d (.i x.2.1)), (50, .d (.i ((b.length + 1 : Nat) : Int))), (51, .d (.i x.1))], [x0, .arr 1 (x.2.2.map .i) false, x2]⟩) (fun x => b.length + 1 - x.1)
    (fun x => x.1 ≤ b.length + 1 ∧ x.2.2.length = L.length ∧ x.2.2.take j = L.take j ∧ x.2.2.drop (j + x.1) = L.drop (j + x.1) ∧ Dig x.2.2 ∧ -9999 ≤ x.2.1 ∧ x.2.1 ≤ 0 ∧ val ((x.2.2.drop j).take x.1) + 10000 ^ x.1 * x.2.1 = val ((L.drop j).take x.1) - q * val (b.take x.1)) (0, 0, L)
    Weak.lo ⟨by simp, rfl, rfl, rfl, hdL, by simp, by simp, by simp [val]⟩ ?_
  rintro ⟨i, c, l⟩ ⟨hi, hl, hlt, hld, hd, hc0, hc1, hvl⟩ K2 hK2
  simp only at hi hl hlt hld hd hc0 hc1 hvl ⊢
  have gl := hd.get (j + i)
  have gb := hdb.get i
  have hp0 : 0 ≤ q * b.getD i 0 := Int.mul_nonneg (by omega) (by omega)
  have hp1 : q * b.getD i 0 ≤ 9999 * 9999 := Int.mul_le_mul (by omega) (by omega) (by omega) (by omega)
  repeat' first | (with_reducible first | refine nx' ?_ (by simp -implicitDefEqProofs (disch := omega) only [go_sem, negdiv]; exact rfl) | refine n0 ?_ | refine rD ?_ | refine n1 ?_ | refine nilB_i fun b hb => ?_ | refine nP ?_ ?_ | refine nS fun K hK => ?_ | (refine n2 ?_ ?_ <;> intro h <;> first | subst (h : _ = true) | subst (h : _ = false) | (simp only [FX, LX, negdiv] at h) | skip) | refine And.intro ?_ ?_ | refine nK ‹Imp _ _› ?_) | exact nl | fail
  · obtain ⟨a1, a2, a3, a4, a5⟩ := dstep (d := (l.getD (j + i) 0 + c - q * b.getD i 0) / 10000) (by omega) hlt hld hd hvl rfl (by omega) (by omega)
    exact ⟨(i + 1, (l.getD (j + i) 0 + c - q * b.getD i 0) / 10000, l.set (j + i) (l.getD (j + i) 0 + c - q * b.getD i 0 - (l.getD (j + i) 0 + c - q * b.getD i 0) / 10000 * 10000)), by simp only; omega, ⟨by simp only; omega, a1.trans hl, a2, a3, a4, by simp only; omega, by simp only; omega, a5⟩, Weak.lo⟩
  · obtain ⟨a1, a2, a3, a4, a5⟩ := dstep (d := 0) (by omega) hlt hld hd hvl rfl (by omega) (by omega)
    exact ⟨(i + 1, 0, l.set (j + i) (l.getD (j + i) 0 + c - q * b.getD i 0 - 0 * 10000)), by simp only; omega, ⟨by simp only; omega, a1.trans hl, a2, a3, a4, by simp, by simp, a5⟩, Weak.lo⟩
  · have hz : b.getD i 0 = 0 := getD_over (by omega)
    obtain ⟨a1, a2, a3, a4, a5⟩ := dstep (d := (l.getD (j + i) 0 + c) / 10000) (x := l.getD (j + i) 0 + c) (by omega) hlt hld hd hvl (by rw [hz, Int.mul_zero, Int.sub_zero]) (by omega) (by omega)
    exact ⟨(i + 1, (l.getD (j + i) 0 + c) / 10000, l.set (j + i) (l.getD (j + i) 0 + c - (l.getD (j + i) 0 + c) / 10000 * 10000)), by simp only; omega, ⟨by simp only; omega, a1.trans hl, a2, a3, a4, by simp only; omega, by simp only; omega, a5⟩, Weak.lo⟩
  · have hz : b.getD i 0 = 0 := getD_over (by omega)
    obtain ⟨a1, a2, a3, a4, a5⟩ := dstep (d := 0) (x := l.getD (j + i) 0 + c) (by omega) hlt hld hd hvl (by rw [hz, Int.mul_zero, Int.sub_zero]) (by omega) (by omega)
    exact ⟨(i + 1, 0, l.set (j + i) (l.getD (j + i) 0 + c - 0 * 10000)), by simp only; omega, ⟨by simp only; omega, a1.trans hl, a2, a3, a4, by simp, by simp, a5⟩, Weak.lo⟩
  · have hin : i = b.length + 1 := by omega
    subst hin
    have hR0 := val_nonneg ((hdL.drop j).take (b.length + 1))
    have hB0 := val_nonneg hdb
    have hBl := val_lt hdb
    rw [List.take_of_length_le (by omega : b.length ≤ b.length + 1)] at hvl
    generalize val ((L.drop j).take (b.length + 1)) = R at *
    clear gl gb hp0 hp1
    refine Wp.loopR (fun x : Int × Int × List Int => ⟨[(0, .msl 1 j (b.length + 1)), (1, .d (encD b)), (5, .d (.i b.length)), (7, .d (.i x.1)), (8, .d (.i x.2.1))], [x0, .arr 1 (x.2.2.map .i) false, x2]⟩) (fun x => x.1.toNat)
      (fun x => 0 ≤ x.1 ∧ x.1 ≤ 9999 ∧ x.2.2.length = L.length ∧ x.2.2.take j = L.take j ∧ x.2.2.drop (j + (b.length + 1)) = L.drop (j + (b.length + 1)) ∧ Dig x.2.2 ∧ -9999 ≤ x.2.1 ∧ x.2.1 ≤ 0 ∧ val ((x.2.2.drop j).take (b.length + 1)) + 10000 ^ (b.length + 1) * x.2.1 = R - x.1 * val b ∧ R < (x.1 + 1) * val b) (q, c, l)
      Weak.lo ⟨hq0, hq9, hl, hlt, hld, hd, hc0, hc1, hvl, hqv⟩ ?_
    clear hl hlt hld hd hc0 hc1 hvl hq0 hq9 hqv
    rintro ⟨q, c, l⟩ ⟨hq0, hq9, hl, hlt, hld, hd, hc0, hc1, hvl, hqv⟩ K4 hK4
    simp only at hq0 hq9 hl hlt hld hd hc0 hc1 hvl hqv ⊢
    have hneg : c < 0 → 1 ≤ q ∧ R - q * val b < 0 := by
      intro h
      have h1 := val_lt ((hd.drop j).take (b.length + 1))
      rw [List.length_take, List.length_drop, Nat.min_eq_left (by omega)] at h1
      generalize (10000 : Int) ^ (b.length + 1) = P at *
      have h3 : P * c ≤ P * (-1) := Int.mul_le_mul_of_nonneg_left (by omega) (by have := val_nonneg ((hd.drop j).take (b.length + 1)); omega)
      have h4 : R - q * val b < 0 := by omega
      refine ⟨?_, h4⟩
      rcases Int.lt_or_le q 1 with h5 | h5
      · have : q = 0 := by omega
        rw [this, Int.zero_mul] at h4; omega
      · exact h5
    repeat' first | (with_reducible first | refine nx' ?_ | refine n0 ?_ | refine rD ?_ | refine n1 ?_ | refine nilB_i fun b hb => ?_ | refine nP ?_ ?_ | refine nS fun K hK => ?_ | (refine n2 ?_ ?_ <;> intro h <;> first | subst (h : _ = true) | subst (h : _ = false) | skip) | refine And.intro ?_ ?_ | refine nK ‹Imp _ _› ?_) | exact nl | fail
    · obtain ⟨hq1, hRq⟩ := hneg (by assumption)
      refine Wp.loopR (fun x : Nat × Int × List Int => ⟨[(0, .msl 1 j (b.length + 1)), (1, .d (encD b)), (5, .d (.i b.length)), (7, .d (.i (q - 1))), (8, .d (.i c)), (11, .d (.i x.2.1)), (90, .d (.i ((b.length + 1 : Nat) : Int))), (91, .d (.i x.1))], [x0, .arr 1 (x.2.2.map .i) false, x2]⟩) (fun x => b.length + 1 - x.1)
        (fun x => x.1 ≤ b.length + 1 ∧ x.2.2.length = l.length ∧ x.2.2.take j = l.take j ∧ x.2.2.drop (j + x.1) = l.drop (j + x.1) ∧ Dig x.2.2 ∧ 0 ≤ x.2.1 ∧ x.2.1 ≤ 1 ∧ val ((x.2.2.drop j).take x.1) + 10000 ^ x.1 * x.2.1 = val ((l.drop j).take x.1) - (-1) * val (b.take x.1)) (0, 0, l)
        Weak.lo ⟨by simp, rfl, rfl, rfl, hd, by simp, by simp, by simp [val]⟩ ?_
      rintro ⟨i, m, r⟩ ⟨hi, hl2, hlt2, hld2, hd2, hm0, hm1, hv2⟩ K3 hK3
      simp only at hi hl2 hlt2 hld2 hd2 hm0 hm1 hv2 ⊢
      have gl := hd2.get (j + i)
      have gb := hdb.get i
      repeat' first | (with_reducible first | refine nx' ?_ | refine n0 ?_ | refine rD ?_ | refine n1 ?_ | refine nilB_i fun b hb => ?_ | refine nP ?_ ?_ | refine nS fun K hK => ?_ | (refine n2 ?_ ?_ <;> intro h <;> first | subst (h : _ = true) | subst (h : _ = false) | skip) | refine And.intro ?_ ?_ | refine nK ‹Imp _ _› ?_) | exact nl | fail
      · obtain ⟨a1, a2, a3, a4, a5⟩ := dstep (q := -1) (x := r.getD (j + i) 0 + m + b.getD i 0) (d := (r.getD (j + i) 0 + m + b.getD i 0) / 10000) (by omega) hlt2 hld2 hd2 hv2 (by omega) (by omega) (by omega)
        have em : (r.getD (j + i) 0 + m + b.getD i 0) % 10000 = r.getD (j + i) 0 + m + b.getD i 0 - (r.getD (j + i) 0 + m + b.getD i 0) / 10000 * 10000 := by omega
        rw [← em] at a1 a2 a3 a4 a5
        exact ⟨(i + 1, (r.getD (j + i) 0 + m + b.getD i 0) / 10000, r.set (j + i) ((r.getD (j + i) 0 + m + b.getD i 0) % 10000)), by simp only; omega, ⟨by simp only; omega, a1.trans hl2, a2, a3, a4, by simp only; omega, by simp only; omega, a5⟩, Weak.lo⟩
      · have hz : b.getD i 0 = 0 := getD_over (by omega)
        obtain ⟨a1, a2, a3, a4, a5⟩ := dstep (q := -1) (x := r.getD (j + i) 0 + m) (d := (r.getD (j + i) 0 + m) / 10000) (by omega) hlt2 hld2 hd2 hv2 (by omega) (by omega) (by omega)
        have em : (r.getD (j + i) 0 + m) % 10000 = r.getD (j + i) 0 + m - (r.getD (j + i) 0 + m) / 10000 * 10000 := by omega
        rw [← em] at a1 a2 a3 a4 a5
        exact ⟨(i + 1, (r.getD (j + i) 0 + m) / 10000, r.set (j + i) ((r.getD (j + i) 0 + m) % 10000)), by simp only; omega, ⟨by simp only; omega, a1.trans hl2, a2, a3, a4, by simp only; omega, by simp only; omega, a5⟩, Weak.lo⟩
      · have hin : i = b.length + 1 := by omega
        subst hin
        rw [List.take_of_length_le (by omega : b.length ≤ b.length + 1)] at hv2
        have hP : (10000 : Int) ^ (b.length + 1) = 10000 ^ b.length * 10000 := Int.pow_succ _ _
        have h1 := val_nonneg ((hd2.drop j).take (b.length + 1))
        have hBP : val b < (10000 : Int) ^ (b.length + 1) := by omega
        generalize (10000 : Int) ^ (b.length + 1) = P at *
        have e1 : P * (c + m) = P * c + P * m := Int.mul_add _ _ _
        have e2 : (q - 1) * val b = q * val b - val b := by rw [Int.sub_mul, Int.one_mul]
        have e3 : (q - 1 + 1) * val b = q * val b := by rw [Int.sub_add_cancel]
        have hcm : c + m ≤ 0 := by
          rcases Int.lt_or_le 0 (c + m) with h | h
          · have h5 : P * 1 ≤ P * (c + m) := Int.mul_le_mul_of_nonneg_left (by omega) (by omega)
            omega
          · exact h
        exact ⟨(q - 1, c + m, r), by simp only; omega, ⟨by simp only; omega, by simp only; omega, hl2.trans hl, hlt2.trans hlt, hld2.trans hld, hd2, by simp only; omega, hcm, by simp only; rw [e1, e2]; omega, by simp only; rw [e3]; omega⟩, Weak.lo⟩
    all_goals
      have hc : c = 0 := by omega
      rw [hc, Int.mul_zero, Int.add_zero] at hvl
      have h1 := val_nonneg ((hd.drop j).take (b.length + 1))
      have hB1 : 0 < val b := by omega
      have hx : R / val b = q := Int.le_antisymm (Int.lt_add_one_iff.1 (Int.ediv_lt_of_lt_mul hB1 hqv)) (Int.le_ediv_of_mul_le hB1 (by omega))
    · rw [hx]
    · have hm : R % val b = val ((l.drop j).take (b.length + 1)) := by rw [Int.emod_def, hx, hvl, Int.mul_comm]
      have hp := pad_val ((hd.drop j).take (b.length + 1))
      rw [List.length_take, List.length_drop, Nat.min_eq_left (by omega)] at hp
      rw [hm, hp, ← hlt, Nat.add_assoc, ← hld, ← List.drop_drop, List.take_append_drop, List.take_append_drop]
end Go.PL
