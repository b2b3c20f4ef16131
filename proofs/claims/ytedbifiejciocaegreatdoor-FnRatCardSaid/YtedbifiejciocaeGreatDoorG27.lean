/- A plain machine, sound for the given model, and contracts of functions over it, part 27: AB AKR AO AO2 PlSpl SR0. Nothing is assumed. -/
import Derived.Test.YtedbifiejciocaeGreatDoorAA
import Derived.Lib.ItoaMem
import Derived.Laws.Strings
import Derived.Lib.Join
import Derived.Lib.SplitLaws
set_option linter.unusedSimpArgs false
set_option linter.unusedVariables false
set_option linter.unusedSectionVars false
/- AB -/
namespace Go.PL
open Go Go.Proofs
set_option maxRecDepth 10000
set_option maxHeartbeats 4000000
set_option linter.unusedSimpArgs false
set_option linter.unusedVariables false
instance (m n : Nat) : Con CC 66 [.d (encD (digs m)), .d (encD (digs n))] (0 < n ∧ (digs m).length < 1000000 ∧ (digs n).length < 1000000) (.tup [.d (encD (digs (m / n))), .d (encD (digs (m % n)))]) := by
  constructor; intro ⟨h0, h1, h2⟩
  exact natDiv_c m n h0 h1 h2
instance (m n : Nat) : Con CC 52 [.d (encD (digs m)), .d (encD (digs n))] ((digs m).length ≤ 2000 ∧ (digs n).length ≤ 2000) (.d (encD (digs (Nat.gcd m n)))) := by
  constructor; intro ⟨hm, hn⟩
  refine Den.pureI Tryz.func52 rfl 2 [.tmp 4] (by kernel_rfl) rfl rfl (by simp only [initE_nil, initE_cons, Nat.reduceAdd]; exact rfl) ?_
  repeat' first | (with_reducible first | refine nx' ?_ | refine n0 ?_ | refine rD ?_ | refine n1 ?_ | refine nilB_i fun b hb => ?_ | refine nP ?_ ?_ | refine nS fun K hK => ?_ | (refine n2 ?_ ?_ <;> intro h <;> first | subst (h : _ = true) | subst (h : _ = false) | skip) | refine And.intro ?_ ?_ | refine nK ‹Imp _ _› ?_) | exact nl | fail
  refine Wp.loopR (fun x : Nat × Nat => ⟨[(0, .d (encD (digs x.1))), (1, .d (encD (digs x.2)))], []⟩) (fun x => x.2)
    (fun x => Nat.gcd x.1 x.2 = Nat.gcd m n ∧ (digs x.1).length ≤ 2000 ∧ (digs x.2).length ≤ 2000) (m, n) Weak.lo ⟨rfl, hm, hn⟩ ?_
  rintro ⟨u, v⟩ ⟨hg, hu, hv⟩ K hK
  simp only at hg hu hv ⊢
  repeat' first | (with_reducible first | refine nx' ?_ | refine n0 ?_ | refine rD ?_ | refine n1 ?_ | refine nilB_i fun b hb => ?_ | refine nP ?_ ?_ | refine nS fun K hK => ?_ | (refine n2 ?_ ?_ <;> intro h <;> first | subst (h : _ = true) | subst (h : _ = false) | skip) | refine And.intro ?_ ?_ | refine nK ‹Imp _ _› ?_) | exact nl | fail
  · rcases Nat.eq_zero_or_pos v with e | e
    · rw [e, digs_zero] at h; simp at h
    · exact e
  · have h0 : 0 < v := by rcases Nat.eq_zero_or_pos v with e | e; (rw [e, digs_zero] at h; simp at h); exact e
    have hlt := Nat.mod_lt u h0
    have hlen := digs_len_mono (Nat.le_of_lt hlt)
    refine ⟨(v, u % v), hlt, ⟨?_, hv, by simp only; omega⟩, Weak.lo⟩
    simp only
    rw [← hg, Nat.gcd_comm v, ← Nat.gcd_rec, Nat.gcd_comm]
  · have e : v = 0 := digs_nil.1 (List.eq_nil_of_length_eq_zero (by omega))
    rw [e, Nat.gcd_zero_right] at hg
    rw [hg]
instance (m : Nat) : Con CC 33 [.d (encD (digs m)), .d (encD [1])] ((digs m).length < 1048576) (.d (.i (cmpN m 1))) := 
  ⟨fun h => by rw [← digs_one]; exact Con.ok ⟨h, by rw [digs_one]; decide⟩⟩
theorem gcd_len2 {m n : Nat} (h : 0 < n) (hn : (digs n).length ≤ 2000) : (digs (Nat.gcd m n)).length < 1048576 := by
  have := digs_len_mono (Nat.le_of_dvd h (Nat.gcd_dvd_right m n)); omega
instance (b : Bool) (x y : List Int) : Con CC 31 [.d (.agg [.b b, encD x, encD y])] (x.length < 4611686018427387904 ∧ y.length < 4611686018427387904) (.d (.b (okRat ⟨b, x, y⟩))) := by
  constructor; intro ⟨h1, h2⟩
  rcases okNat_cases x with ⟨m, rfl, hm⟩ | hx
  · have em := okNat_of_digs hm
    rcases okNat_cases y with ⟨n, rfl, hn⟩ | hy
    · have en := okNat_of_digs hn
      refine Den.pureI Tryz.func31 rfl 1 [.tmp 2] (by kernel_rfl) rfl rfl (by simp only [initE_nil, initE_cons, Nat.reduceAdd]; exact rfl) ?_
      repeat' first | (with_reducible first | refine nx' ?_ (by simp -implicitDefEqProofs (disch := omega) only [go_sem, em, en]; exact rfl) | refine n0 ?_ | refine rD ?_ | refine n1 ?_ | refine nilB_i fun b hb => ?_ | refine nP ?_ ?_ | refine nS fun K hK => ?_ | (refine n2 ?_ ?_ <;> intro h <;> first | subst (h : _ = true) | subst (h : _ = false) | (simp only [FX, LX, em, en] at h) | skip) | refine And.intro ?_ ?_ | refine nK ‹Imp _ _› ?_) | exact nl | fail
      all_goals (try simp only [digs_len0, ne_eq] at *)
      all_goals (first | (rw [okRat_digs hm hn]; simp [cmpN_eq, *]; done) | exact gcd_len2 (by omega) (by omega))
    · refine Den.pureI Tryz.func31 rfl 1 [.tmp 2] (by kernel_rfl) rfl rfl (by simp only [initE_nil, initE_cons, Nat.reduceAdd]; exact rfl) ?_
      repeat' first | (with_reducible first | refine nx' ?_ (by simp -implicitDefEqProofs (disch := omega) only [go_sem, em, hy]; exact rfl) | refine n0 ?_ | refine rD ?_ | refine n1 ?_ | refine nilB_i fun b hb => ?_ | refine nP ?_ ?_ | refine nS fun K hK => ?_ | (refine n2 ?_ ?_ <;> intro h <;> first | subst (h : _ = true) | subst (h : _ = false) | (simp only [FX, LX, em, hy] at h) | skip) | refine And.intro ?_ ?_ | refine nK ‹Imp _ _› ?_) | exact nl | fail
      all_goals (simp [okRat, em, hy])
  · refine Den.pureI Tryz.func31 rfl 1 [.tmp 2] (by kernel_rfl) rfl rfl (by simp only [initE_nil, initE_cons, Nat.reduceAdd]; exact rfl) ?_
    repeat' first | (with_reducible first | refine nx' ?_ (by simp -implicitDefEqProofs (disch := omega) only [go_sem, hx]; exact rfl) | refine n0 ?_ | refine rD ?_ | refine n1 ?_ | refine nilB_i fun b hb => ?_ | refine nP ?_ ?_ | refine nS fun K hK => ?_ | (refine n2 ?_ ?_ <;> intro h <;> first | subst (h : _ = true) | subst (h : _ = false) | (simp only [FX, LX, hx] at h) | skip) | refine And.intro ?_ ?_ | refine nK ‹Imp _ _› ?_) | exact nl | fail
    all_goals (simp [okRat, hx])

instance (b : Bool) (x y : List Int) : Con CC 30 [.d (.agg [.b b, encD x, encD y])] (x.length < 4611686018427387904 ∧ y.length < 4611686018427387904) (.d (.b (!okRat ⟨b, x, y⟩))) := by
  constructor; intro ⟨h1, h2⟩
  refine Den.pureI Tryz.func30 rfl 1 [.tmp 2] (by kernel_rfl) rfl rfl (by simp only [initE_nil, initE_cons, Nat.reduceAdd]; exact rfl) ?_
  repeat' first | (with_reducible first | refine nx' ?_ | refine n0 ?_ | refine rD ?_ | refine n1 ?_ | refine nilB_i fun b hb => ?_ | refine nP ?_ ?_ | refine nS fun K hK => ?_ | (refine n2 ?_ ?_ <;> intro h <;> first | subst (h : _ = true) | subst (h : _ = false) | skip) | refine And.intro ?_ ?_ | refine nK ‹Imp _ _› ?_) | exact nl | fail
instance (l : List Rt) : Con CC 14 [.d (.sl (l.map encR))] (bV l) (.d (.i (if l.all okRat then 0 else 1))) := by
  constructor; intro hb
  have hp : ∀ x ∈ l, CC 30 (.d (encR x) :: dV []) [] (.d (.b (!okRat x))) [] := fun x hx => by
    have h := hb.2 x hx
    exact Con.ok (C := CC) (vs := [.d (.agg [.b x.neg, encD x.num, encD x.den])]) ⟨by have := h.1; omega, by have := h.2; omega⟩
  have hc := containsFunc_R 30 [] (fun x => !okRat x) l (by have := hb.1; omega) hp
  refine Den.pureI Tryz.func14 rfl 1 [.tmp 2] (by kernel_rfl) rfl rfl (by simp only [initE_nil, initE_cons, Nat.reduceAdd]; exact rfl) ?_
  repeat' first | (with_reducible first | refine nx' ?_ | refine n0 ?_ | refine rD ?_ | refine n1 ?_ | refine nilB_i fun b hb => ?_ | refine nPc (hc) ?_ | refine nP ?_ ?_ | refine nS fun K hK => ?_ | (refine n2 ?_ ?_ <;> intro h <;> first | subst (h : _ = true) | subst (h : _ = false) | skip) | refine And.intro ?_ ?_ | refine nK ‹Imp _ _› ?_) | exact nl | fail
  rw [List.not_any_eq_all_not]
  simp only [Bool.not_not]
theorem szL_le {n : Nat} (h : 0 ≤ szL 1048576 n) : n ≤ 1048576 := by
  unfold szL at h; split at h <;> omega
theorem bV_of {l : List Rt} (h : szV l ≤ 1048576) : bV l := by
  unfold szV at h
  refine ⟨by omega, fun r hr => ?_⟩
  have := sumOf_mem (f := szR) hr
  rw [show szR r = r.num.length + r.den.length from rfl] at this
  exact ⟨by omega, by omega⟩
theorem bRc_of {r : Rc} (h : 0 ≤ szL 1048576 (szRc r)) : bRc r := by
  have := szL_le h
  unfold szRc szR at this
  exact ⟨bV_of (by omega), by omega, by omega⟩
end Go.PL

/- AKR -/
namespace Go.PL
open Go Go.Proofs
set_option maxRecDepth 10000
set_option maxHeartbeats 4000000
set_option linter.unusedSimpArgs false
set_option linter.unusedVariables false
instance (n : Int) : Con CC 54 [.d (.i n)] (-9223372036854775808 ≤ n ∧ n ≤ 9223372036854775807) (.d (.s (itoaB n))) :=
  ⟨fun h => Den.ext ⟨rfl, rfl, .inl ⟨rfl, n, h.1, h.2, rfl, rfl⟩⟩⟩
theorem wrap8 {n : Int} (h1 : 0 ≤ n) (h2 : n < 256) : IntKind.wrap .u8 n = n := by
  have e1 : (2 ^ IntKind.u8.bits : Int) = 256 := by decide
  have e3 : IntKind.u8.signed = false := by decide
  simp only [IntKind.wrap, e1, e3, Bool.false_and, Bool.false_eq_true, if_false]
  omega
theorem digB_small {n : Nat} (h : n < 10) : digB n = strB [IntKind.u8.wrap (48 + (n : Int))] := by
  unfold digB strB
  rw [Lib.decDigits, dif_pos h, wrap8 (by omega) (by omega), show (48 + (n : Int)) = ((48 + n : Nat) : Int) by omega]
  rfl
theorem digB_big {n : Nat} (h : 10 ≤ n) : digB n = digB (n / 10) ++ strB [IntKind.u8.wrap (48 + ((n % 10 : Nat) : Int))] := by
  unfold digB strB
  rw [Lib.decDigits, dif_neg (by omega), wrap8 (by omega) (by omega), show (48 + ((n % 10 : Nat) : Int)) = ((48 + n % 10 : Nat) : Int) by omega]
  apply ByteArray.ext
  rw [ByteArray.data_append]
  show (Lib.decDigits (n / 10) ++ [UInt8.ofNat (48 + n % 10)]).toArray = (Lib.decDigits (n / 10)).toArray ++ [UInt8.ofNat (48 + n % 10)].toArray
  simp only [List.append_toArray]
theorem strB_size (l : List Int) : (strB l).size = l.length := by
  show ((l.map fun n => UInt8.ofNat n.toNat).toArray).size = _
  simp
theorem digB_size (n : Nat) : (digB n).size ≤ n + 1 := by
  show (Lib.decDigits n).toArray.size ≤ _
  induction n using Nat.strongRecOn with
  | _ n ih =>
    rw [Lib.decDigits]
    split
    · simp
    · have := ih (n / 10) (by omega)
      simp only [List.size_toArray, List.length_append, List.length_cons, List.length_nil] at this ⊢
      omega
theorem digits_c (n : Nat) : n ≤ 9223372036854775807 → CC 60 [.d (.i n)] [] (.d (.s (digB n))) [] := by
  induction n using Nat.strongRecOn with
  | _ n ih =>
    intro hn
    have hs := digB_size (n / 10)
    have e1 : (n : Int) / 10 = ((n / 10 : Nat) : Int) := by omega
    have e2 : (n : Int) % 10 = ((n % 10 : Nat) : Int) := by omega
    refine Den.pureI Tryz.func60 rfl 1 [.tmp 2] (by kernel_rfl) rfl rfl (by simp only [initE_nil, initE_cons, Nat.reduceAdd]; exact rfl) ?_
    repeat' first | (with_reducible first | refine nx' ?_ (by simp -implicitDefEqProofs (disch := omega) only [go_sem, e1, e2]; exact rfl) | refine n0 ?_ | refine Wp.drawR (by decide +kernel) ?_ | refine Wp.drawSR [7, 8, 9, 10] [false, false, false, false, false, false, false, true, true, true, true] (.op 7 [0,1,2] (.op 8 [0,1,2] (.op 9 [] (.op 10 [] .done)))) (by decide +kernel) ?_ | refine n1 ?_ | refine nilB_i fun b hb => ?_ | refine nPc (ih (n / 10) (by omega) (by omega)) ?_ | refine nP ?_ ?_ | refine nS fun K hK => ?_ | (refine n2 ?_ ?_ <;> intro h <;> first | subst (h : _ = true) | subst (h : _ = false) | (simp only [FX, LX, e1, e2] at h) | skip) | refine And.intro ?_ ?_ | refine nK ‹Imp _ _› ?_) | exact nl | fail
    · rw [digB_small (by omega)]
    · rw [strB_size]; simp only [List.length_cons, List.length_nil]; omega
    · rw [← digB_big (by omega)]
instance (n : Nat) : Con CC 60 [.d (.i n)] (n ≤ 9223372036854775807) (.d (.s (digB n))) := ⟨digits_c n⟩
theorem itoaB_nat (m : Nat) : itoaB (m : Int) = digB m := by unfold itoaB digB; rw [Lib.itoa_nonneg]
end Go.PL

/- AO -/
namespace Go.PL
open Go Go.Proofs
set_option maxRecDepth 10000
set_option maxHeartbeats 4000000
set_option linter.unusedSimpArgs false
set_option linter.unusedVariables false
/-- A text of bytes. -/
def strT (l : List UInt8) : ByteArray := ⟨l.toArray⟩
theorem strT_size {l : List UInt8} : (strT l).size = l.length := by simp [strT, ByteArray.size]
theorem strT_app {a b : List UInt8} : strT a ++ strT b = strT (a ++ b) := by
  apply ByteArray.ext
  rw [ByteArray.data_append]
  simp [strT]
theorem strT_tail {c : UInt8} {l : List UInt8} : (strT (c :: l)).extract 1 (strT (c :: l)).size = strT l := by
  apply ByteArray.ext
  rw [ByteArray.data_extract]
  simp [strT, ByteArray.size]
theorem strT_tail4 {c : UInt8} {l : List UInt8} (h : l.length = 4) : (strT (c :: l)).extract 1 5 = strT l := by
  have e : (strT (c :: l)).size = 5 := by rw [strT_size, List.length_cons, h]
  rw [← e]; exact strT_tail
theorem natTB_nil : natTB [] = strT [48] := rfl
theorem natTB_ne {a : List Int} (h : a ≠ []) : natTB a = strT (textR a.reverse) := by rw [natTB, if_neg h]; rfl
abbrev limbs (a : List Int) : Prop := ∀ x ∈ a, 0 ≤ x ∧ x ≤ 9999
theorem natTB_size {a : List Int} (h : limbs a) : (natTB a).size ≤ 4 * a.length + 1 := by
  by_cases e : a = []
  · subst e; rw [natTB_nil, strT_size]; simp
  · rw [natTB_ne e, strT_size]
    have := textR_len (l := a.reverse) fun x hx => h x (by simpa using hx)
    rw [List.length_reverse] at this; omega
theorem digits_i (z : Int) (h : 0 ≤ z ∧ z ≤ 9999) : CC 60 [.d (.i z)] [] (.d (.s (strT (Lib.decDigits z.toNat)))) [] := by
  obtain ⟨n, rfl⟩ : ∃ n : Nat, z = n := ⟨z.toNat, by omega⟩
  exact digits_c n (by omega)
theorem digits_o (z : Int) (h : 0 ≤ z ∧ z ≤ 9999) : CC 60 [.d (.i (10000 + z))] [] (.d (.s (strT (49 :: pad4 z)))) [] := by
  rw [← pad4_lim h]
  obtain ⟨n, hn⟩ : ∃ n : Nat, 10000 + z = n := ⟨(10000 + z).toNat, by omega⟩
  rw [hn]
  exact digits_c n (by omega)
instance (a : List Int) : Con CC 32 [.d (.sl (a.map .i))] (a.length ≤ 1048576 ∧ limbs a) (.d (.s (natTB a))) :=
  ⟨fun h => Den.ext ⟨rfl, rfl, .inr (.inl ⟨rfl, a, h.1, h.2, rfl, rfl⟩)⟩⟩
instance (a : List Int) : Con CC 38 [.d (.sl (a.map .i))] (a.length ≤ 1048576 ∧ limbs a) (.d (.s (natTB a))) := by
  constructor; intro ⟨hl, ha⟩
  by_cases h0 : a.length = 0
  · have e : a = [] := List.eq_nil_of_length_eq_zero h0
    subst e
    refine Den.pureI Tryz.func38 rfl 1 [.tmp 2] (by kernel_rfl) rfl rfl (by simp only [initE_nil, initE_cons, Nat.reduceAdd]; exact rfl) ?_
    repeat' first | (with_reducible first | refine nx' ?_ | refine n0 ?_ | refine rD ?_ | refine n1 ?_ | refine nilB_i fun b hb => ?_ | refine nP ?_ ?_ | refine nS fun K hK => ?_ | (refine n2 ?_ ?_ <;> intro h <;> first | subst (h : _ = true) | subst (h : _ = false) | skip) | refine And.intro ?_ ?_ | refine nK ‹Imp _ _› ?_) | exact nl | fail
    rfl
  have hne : a ≠ [] := by rintro rfl; exact h0 rfl
  have hd := digits_i _ (ha _ (getD_mem 0 (show a.length - 1 < a.length by omega)))
  have e1 : ((a.length : Int) - 1).toNat = a.length - 1 := by omega
  have htl : ∀ k, (textR (a.drop k).reverse).length ≤ 4 * a.length := fun k => by
    have := textR_len (l := (a.drop k).reverse) fun x hx => ha x (List.mem_of_mem_drop (by simpa using hx))
    rw [List.length_reverse, List.length_drop] at this
    omega
  refine Den.pureI Tryz.func38 rfl 1 [.tmp 2] (by kernel_rfl) rfl rfl (by simp only [initE_nil, initE_cons, Nat.reduceAdd]; exact rfl) ?_
  repeat' first | (with_reducible first | refine nx' ?_ (by simp -implicitDefEqProofs (disch := omega) only [go_sem, e1]; exact rfl) | refine n0 ?_ | refine rD ?_ | refine n1 ?_ | refine nilB_i fun b hb => ?_ | refine nPc (hd) ?_ | refine nP ?_ ?_ | refine nS fun K hK => ?_ | (refine n2 ?_ ?_ <;> intro h <;> first | subst (h : _ = true) | subst (h : _ = false) | (simp only [FX, LX, e1] at h) | skip) | refine And.intro ?_ ?_ | refine nK ‹Imp _ _› ?_) | exact nl | fail
  refine Wp.loopR (fun x : Nat => ⟨[(0, .d (.sl (a.map .i))), (3, .d (.s (strT (textR (a.drop x).reverse)))), (4, .d (.i ((x : Int) - 1)))], []⟩) (fun x => x) (fun x => x < a.length) (a.length - 1)
    (Weak.low (by simp -implicitDefEqProofs (disch := omega) only [go_sem, sub_nil, sub_cons, LX, textR_top (show 0 < a.length by omega), e1, show (((a.length - 1 : Nat) : Int) - 1) = (a.length : Int) - 2 by omega]; try ((repeat' refine And.intro ?_ ?_) <;> first | rfl | trivial | (congr 3; omega) | (congr 1; omega)))) (by omega) ?_
  rintro x hx K hK
  have hd2 := htl x
  by_cases h1 : x = 0
  · subst h1
    repeat' first | (with_reducible first | refine nx' ?_ | refine n0 ?_ | refine rD ?_ | refine n1 ?_ | refine nilB_i fun b hb => ?_ | refine nP ?_ ?_ | refine nS fun K hK => ?_ | (refine n2 ?_ ?_ <;> intro h <;> first | subst (h : _ = true) | subst (h : _ = false) | skip) | refine And.intro ?_ ?_ | refine nK ‹Imp _ _› ?_) | exact nl | fail
    rw [natTB_ne hne]
  · have hlim := ha _ (getD_mem 0 (show x - 1 < a.length by omega))
    have e2 : ((x : Int) - 1).toNat = x - 1 := by omega
    have ho := digits_o _ hlim
    have hp := pad4_len hlim
    have hd3 := htl (x - 1)
    have ht5 := strT_tail4 (c := 49) hp
    have et : textR (a.drop (x - 1)).reverse = textR (a.drop x).reverse ++ pad4 (a.getD (x - 1) 0) := by
      have := textR_drop (a := a) (k := x - 1) (by omega)
      rw [show x - 1 + 1 = x by omega] at this
      exact this
    repeat' first | (with_reducible first | refine nx' ?_ (by simp -implicitDefEqProofs (disch := omega) only [go_sem, e2, strT_size, ht5, strT_app, hp]; exact rfl) | refine n0 ?_ | refine rD ?_ | refine n1 ?_ | refine nilB_i fun b hb => ?_ | refine nPc (ho) ?_ | refine nP ?_ ?_ | refine nS fun K hK => ?_ | (refine n2 ?_ ?_ <;> intro h <;> first | subst (h : _ = true) | subst (h : _ = false) | (simp only [FX, LX, e2, strT_size, ht5, strT_app, hp] at h) | skip) | refine And.intro ?_ ?_ | refine nK ‹Imp _ _› ?_) | exact nl | fail
    exact ⟨x - 1, by omega, by omega, (Weak.low (by simp -implicitDefEqProofs (disch := omega) only [go_sem, sub_nil, sub_cons, LX, et, show (((x - 1 : Nat) : Int) - 1) = (x : Int) - 1 - 1 by omega]; try ((repeat' refine And.intro ?_ ?_) <;> first | rfl | trivial | (congr 3; omega) | (congr 1; omega))))⟩
end Go.PL

/- AO2 -/
namespace Go.PL
open Go Go.Proofs
set_option maxRecDepth 10000
set_option maxHeartbeats 4000000
set_option linter.unusedSimpArgs false
set_option linter.unusedVariables false
theorem limbs_digs (m : Nat) : limbs (digs m) := fun x hx => by have := Dig.digs m x hx; omega
theorem okRat_parts {g : Bool} {u v : List Int} (h : okRat ⟨g, u, v⟩ = true) : ∃ m n, u = digs m ∧ v = digs n ∧ (digs m).length ≤ 40 ∧ (digs n).length ≤ 40 := by
  unfold okRat at h
  simp only [Bool.and_eq_true] at h
  obtain ⟨m, hm, hm2⟩ := okNat_digs h.1.1.1.1
  obtain ⟨n, hn, hn2⟩ := okNat_digs h.1.1.1.2
  exact ⟨m, n, hm, hn, hm2, hn2⟩
theorem cmp_one (n : Nat) : cmpN n 1 = 0 ↔ digs n = [1] := by
  constructor
  · intro h
    have : n = 1 := by unfold cmpN at h; split at h <;> (try split at h) <;> omega
    rw [this, digs_one]
  · intro h
    have : digs n = digs 1 := by rw [h, digs_one]
    rw [digs_inj this]; rfl
/-- A rational's text. -/
def ratTB (r : Rt) : ByteArray := if r.den = [1] then (if r.neg then strT [45] ++ natTB r.num else natTB r.num) else (if r.neg then strT [45] ++ natTB r.num else natTB r.num) ++ (strT [47] ++ natTB r.den)
theorem ba_assoc (a b c : ByteArray) : a ++ b ++ c = a ++ (b ++ c) := by
  apply ByteArray.ext
  simp only [ByteArray.data_append, Array.append_assoc]
theorem ratTB_size {r : Rt} (h : okRat r = true) : (ratTB r).size ≤ 400 := by
  obtain ⟨g, u, v⟩ := r
  obtain ⟨m, n, rfl, rfl, hm, hn⟩ := okRat_parts h
  have h1 := natTB_size (limbs_digs m)
  have h2 := natTB_size (limbs_digs n)
  have e1 : (strT [45]).size = 1 := rfl
  have e2 : (strT [47]).size = 1 := rfl
  unfold ratTB
  simp only
  split <;> split <;> (try simp only [ByteArray.size_append]) <;> omega
instance (g : Bool) (u v : List Int) : Con CC 17 [.d (.agg [.b g, .sl (u.map .i), .sl (v.map .i)])] (okRat ⟨g, u, v⟩ = true) (.d (.s (ratTB ⟨g, u, v⟩))) := by
  constructor; intro h
  obtain ⟨m, n, rfl, rfl, hm, hn⟩ := okRat_parts h
  have h1 := natTB_size (limbs_digs m)
  have h2 := natTB_size (limbs_digs n)
  have l1 := limbs_digs m
  have l2 := limbs_digs n
  have e1 : (ByteArray.mk #[45]).size = 1 := rfl
  have e2 : (ByteArray.mk #[47]).size = 1 := rfl
  have hc := cmp_one n
  refine Den.pureI Tryz.func17 rfl 1 [.tmp 2] (by kernel_rfl) rfl rfl (by simp only [initE_nil, initE_cons, Nat.reduceAdd]; exact rfl) ?_
  repeat' first | (with_reducible first | refine nx' ?_ (by simp -implicitDefEqProofs (disch := omega) only [go_sem, e1, e2, ByteArray.size_append]; exact rfl) | refine n0 ?_ | refine rD ?_ | refine n1 ?_ | refine nilB_i fun b hb => ?_ | refine nP ?_ ?_ | refine nS fun K hK => ?_ | (refine n2 ?_ ?_ <;> intro h <;> first | subst (h : _ = true) | subst (h : _ = false) | (simp only [FX, LX, e1, e2, ByteArray.size_append] at h) | skip) | refine And.intro ?_ ?_ | refine nK ‹Imp _ _› ?_) | exact nl | fail
  all_goals (simp only [ratTB])
  all_goals (first | (rw [if_neg (fun e => (by assumption : cmpN n 1 ≠ 0) (hc.2 e))]) | rw [if_pos (hc.1 (by assumption))])
  all_goals (first | rfl | (simp only [if_true, Bool.false_eq_true, if_false, ba_assoc]; rfl))
instance (g : Bool) (u v : List Int) : Con CC 15 [.d (.agg [.b g, .sl (u.map .i), .sl (v.map .i)])] (okRat ⟨g, u, v⟩ = true) (.d (.s (ratTB ⟨g, u, v⟩))) := by
  constructor; intro h
  obtain ⟨m, n, rfl, rfl, hm, hn⟩ := okRat_parts h
  have h1 := natTB_size (limbs_digs m)
  have h2 := natTB_size (limbs_digs n)
  have l1 := limbs_digs m
  have l2 := limbs_digs n
  have e1 : (ByteArray.mk #[45]).size = 1 := rfl
  have e2 : (ByteArray.mk #[47]).size = 1 := rfl
  have hc := cmp_one n
  refine Den.pureI Tryz.func15 rfl 1 [.tmp 2] (by kernel_rfl) rfl rfl (by simp only [initE_nil, initE_cons, Nat.reduceAdd]; exact rfl) ?_
  repeat' first | (with_reducible first | refine nx' ?_ (by simp -implicitDefEqProofs (disch := omega) only [go_sem, e1, e2, ByteArray.size_append]; exact rfl) | refine n0 ?_ | refine Wp.drawR (by decide +kernel) ?_ | refine Wp.drawSR [2, 3, 4] [false, false, true, true, true] (.op 2 [0,1] (.op 3 [] (.op 4 [] .done))) (by decide +kernel) ?_ | refine n1 ?_ | refine nilB_i fun b hb => ?_ | refine nP ?_ ?_ | refine nS fun K hK => ?_ | (refine n2 ?_ ?_ <;> intro h <;> first | subst (h : _ = true) | subst (h : _ = false) | (simp only [FX, LX, e1, e2, ByteArray.size_append] at h) | skip) | refine And.intro ?_ ?_ | refine nK ‹Imp _ _› ?_) | exact nl | fail
  all_goals (simp only [ratTB])
  all_goals (first | (rw [if_neg (fun e => (by assumption : cmpN n 1 ≠ 0) (hc.2 e))]) | rw [if_pos (hc.1 (by assumption))])
  all_goals (first | rfl | (simp only [if_true, Bool.false_eq_true, if_false, ba_assoc]; rfl))
theorem arr_R1 {b : Bool} {x y : List Int} {fz : Bool} : Ob.arr 3 [D.agg [.val (.bool b), .sl (x.map .i), .sl (y.map .i)]] fz = .arr 3 ([(⟨b, x, y⟩ : Rt)].map encR) fz := rfl
attribute [go_sem] arr_R1
instance (g : Bool) (u v : List Int) : Con CC 6 [.d (.agg [.b g, .sl (u.map .i), .sl (v.map .i)])] (bR ⟨g, u, v⟩) (.tup [.d (.s (if okRat ⟨g, u, v⟩ then ratTB ⟨g, u, v⟩ else strT [])), .d (.i (if okRat ⟨g, u, v⟩ then 0 else 1))]) := by
  constructor; intro hb
  have hb1 : u.length ≤ 1048576 := hb.1
  have hb2 : v.length ≤ 1048576 := hb.2
  cases hk : okRat ⟨g, u, v⟩ with
  | true =>
    refine Den.pureI Tryz.func6 rfl 1 [.tmp 2, .tmp 3] (by kernel_rfl) rfl rfl (by simp only [initE_nil, initE_cons, Nat.reduceAdd]; exact rfl) ?_
    repeat' first | (with_reducible first | refine nx' ?_ (by simp -implicitDefEqProofs (disch := omega) only [go_sem, hk]; exact rfl) | refine n0 ?_ | refine rD ?_ | refine n1 ?_ | refine nilB_i fun b hb => ?_ | refine nP ?_ ?_ | refine nS fun K hK => ?_ | (refine n2 ?_ ?_ <;> intro h <;> first | subst (h : _ = true) | subst (h : _ = false) | (simp only [FX, LX, hk] at h) | skip) | refine And.intro ?_ ?_ | refine nK ‹Imp _ _› ?_) | exact nl | fail
  | false =>
    refine Den.pureI Tryz.func6 rfl 1 [.tmp 2, .tmp 3] (by kernel_rfl) rfl rfl (by simp only [initE_nil, initE_cons, Nat.reduceAdd]; exact rfl) ?_
    repeat' first | (with_reducible first | refine nx' ?_ (by simp -implicitDefEqProofs (disch := omega) only [go_sem, hk]; exact rfl) | refine n0 ?_ | refine rD ?_ | refine n1 ?_ | refine nilB_i fun b hb => ?_ | refine nP ?_ ?_ | refine nS fun K hK => ?_ | (refine n2 ?_ ?_ <;> intro h <;> first | subst (h : _ = true) | subst (h : _ = false) | (simp only [FX, LX, hk] at h) | skip) | refine And.intro ?_ ?_ | refine nK ‹Imp _ _› ?_) | exact nl | fail
    all_goals rfl
instance (g : Bool) (u v : List Int) : Con CC 5 [.d (.agg [.b g, .sl (u.map .i), .sl (v.map .i)])] (bR ⟨g, u, v⟩) (.tup [.d (.s (if okRat ⟨g, u, v⟩ then ratTB ⟨g, u, v⟩ else strT [])), .d (.i (if okRat ⟨g, u, v⟩ then 0 else 1))]) := by
  constructor; intro hb
  have hb1 : u.length ≤ 1048576 := hb.1
  have hb2 : v.length ≤ 1048576 := hb.2
  have hbv : bV [⟨g, u, v⟩] := ⟨by simp, fun r hr => by rw [List.mem_singleton.1 hr]; exact hb⟩
  cases hk : okRat ⟨g, u, v⟩ with
  | true =>
    have ha : [(⟨g, u, v⟩ : Rt)].all okRat = true := by simp [hk]
    refine Den.pureI Tryz.func5 rfl 1 [.tmp 2, .tmp 3] (by kernel_rfl) rfl rfl (by simp only [initE_nil, initE_cons, Nat.reduceAdd]; exact rfl) ?_
    repeat' first | (with_reducible first | refine nx' ?_ (by simp -implicitDefEqProofs (disch := omega) only [go_sem, ha]; exact rfl) | refine n0 ?_ | refine rD ?_ | refine n1 ?_ | refine nilB_i fun b hb => ?_ | refine nP ?_ ?_ | refine nS fun K hK => ?_ | (refine n2 ?_ ?_ <;> intro h <;> first | subst (h : _ = true) | subst (h : _ = false) | (simp only [FX, LX, ha] at h) | skip) | refine And.intro ?_ ?_ | refine nK ‹Imp _ _› ?_) | exact nl | fail
  | false =>
    have ha : [(⟨g, u, v⟩ : Rt)].all okRat = false := by simp [hk]
    refine Den.pureI Tryz.func5 rfl 1 [.tmp 2, .tmp 3] (by kernel_rfl) rfl rfl (by simp only [initE_nil, initE_cons, Nat.reduceAdd]; exact rfl) ?_
    repeat' first | (with_reducible first | refine nx' ?_ (by simp -implicitDefEqProofs (disch := omega) only [go_sem, ha]; exact rfl) | refine n0 ?_ | refine rD ?_ | refine n1 ?_ | refine nilB_i fun b hb => ?_ | refine nP ?_ ?_ | refine nS fun K hK => ?_ | (refine n2 ?_ ?_ <;> intro h <;> first | subst (h : _ = true) | subst (h : _ = false) | (simp only [FX, LX, ha] at h) | skip) | refine And.intro ?_ ?_ | refine nK ‹Imp _ _› ?_) | exact nl | fail
    rfl
theorem bR_sz {r : Rt} (h : ¬ szL 1048576 (szR r) < 0) : bR r := by
  have h2 : szR r ≤ 1048576 := by
    unfold szL at h
    split at h <;> omega
  unfold szR at h2
  exact ⟨by omega, by omega⟩
end Go.PL

/- PlSpl -/
/- Texts parted at a byte. -/
namespace Go.PL
open Go
/-- The pieces between the instances of a byte. -/
def spl (c : UInt8) : List UInt8 → List (List UInt8)
  | [] => [[]]
  | x :: r => if x = c then [] :: spl c r else match spl c r with
    | h :: t => (x :: h) :: t
    | [] => [[x]]
theorem spl_nil (c : UInt8) : spl c [] = [[]] := rfl
theorem spl_ne (c : UInt8) : ∀ l, spl c l ≠ []
  | [] => by simp [spl]
  | x :: r => by
    unfold spl
    split
    · simp
    · split <;> simp
theorem spl_eq (c : UInt8) (r : List UInt8) : spl c (c :: r) = [] :: spl c r := by rw [spl, if_pos rfl]
theorem spl_cons {c x : UInt8} (r : List UInt8) (h : x ≠ c) : ∃ a t, spl c r = a :: t ∧ spl c (x :: r) = (x :: a) :: t := by
  cases hs : spl c r with
  | nil => exact absurd hs (spl_ne c r)
  | cons a t => exact ⟨a, t, rfl, by rw [spl, if_neg h, hs]⟩
theorem spl_free {c : UInt8} {w : List UInt8} (h : c ∉ w) : spl c w = [w] := by
  induction w with
  | nil => rfl
  | cons x r ih =>
    have h1 : x ≠ c := fun e => h (by simp [e])
    obtain ⟨a, t, e1, e2⟩ := spl_cons r h1
    rw [ih fun hc => h (by simp [hc])] at e1
    cases e1
    exact e2
theorem spl_app {c : UInt8} {w : List UInt8} (r : List UInt8) (h : c ∉ w) : spl c (w ++ c :: r) = w :: spl c r := by
  induction w with
  | nil => exact spl_eq c r
  | cons x v ih =>
    have h1 : x ≠ c := fun e => h (by simp [e])
    obtain ⟨a, t, e1, e2⟩ := spl_cons (v ++ c :: r) h1
    rw [ih fun hc => h (by simp [hc])] at e1
    cases e1
    exact e2
/-- No piece has the byte. -/
theorem spl_mem {c : UInt8} : ∀ {l w : List UInt8}, w ∈ spl c l → c ∉ w
  | [], w, h => by
    rw [spl_nil, List.mem_singleton] at h
    subst h; simp
  | x :: r, w, h => by
    by_cases hx : x = c
    · subst hx
      rw [spl_eq, List.mem_cons] at h
      rcases h with rfl | h
      · simp
      · exact spl_mem h
    · obtain ⟨a, t, e1, e2⟩ := spl_cons r hx
      rw [e2, List.mem_cons] at h
      rcases h with rfl | h
      · have := spl_mem (c := c) (l := r) (w := a) (by rw [e1]; simp)
        rw [List.mem_cons]
        rintro (e | e)
        · exact hx e.symm
        · exact this e
      · exact spl_mem (l := r) (by rw [e1]; simp [h])
/-- The rest behind the first piece, each piece with the byte ahead. -/
def tailS (c : UInt8) (ws : List (List UInt8)) : List UInt8 := (ws.map fun w => c :: w).flatten
def joinS (c : UInt8) : List (List UInt8) → List UInt8
  | [] => []
  | w :: r => w ++ tailS c r
theorem joinS_eq (c : UInt8) (ws : List (List UInt8)) : Lib.join ws [c] = joinS c ws := by
  match ws with
  | [] => rw [Lib.join_nil]; rfl
  | w :: r =>
    rw [Lib.join_cons]
    have : ∀ r : List (List UInt8), Lib.joinTail [c] r = tailS c r := by
      intro r
      induction r with
      | nil => rfl
      | cons x r ih =>
        have e : Lib.joinTail [c] (x :: r) = [c] ++ x ++ Lib.joinTail [c] r := by simp [Lib.joinTail]
        rw [e, ih]; simp [tailS]
    rw [this]; rfl
theorem joinS_spl (c : UInt8) : ∀ l, joinS c (spl c l) = l
  | [] => rfl
  | x :: r => by
    by_cases hx : x = c
    · subst hx
      rw [spl_eq]
      have ih := joinS_spl x r
      cases hs : spl x r with
      | nil => exact absurd hs (spl_ne x r)
      | cons a t =>
        rw [hs] at ih
        show [] ++ tailS x (a :: t) = _
        rw [List.nil_append]
        show (x :: a) ++ tailS x t = _
        rw [List.cons_append]
        exact congrArg (x :: ·) ih
    · obtain ⟨a, t, e1, e2⟩ := spl_cons r hx
      have ih := joinS_spl c r
      rw [e1] at ih
      rw [e2]
      exact congrArg (x :: ·) ih
theorem spl_joinS {c : UInt8} : ∀ {ws : List (List UInt8)}, ws ≠ [] → (∀ w ∈ ws, c ∉ w) → spl c (joinS c ws) = ws
  | [], h, _ => absurd rfl h
  | [w], _, h => by
    show spl c (w ++ []) = _
    rw [List.append_nil]; exact spl_free (h w (by simp))
  | w :: v :: r, _, h => by
    have ih := spl_joinS (ws := v :: r) (by simp) fun x hx => h x (by simp only [List.mem_cons] at hx ⊢; exact .inr hx)
    have e : joinS c (w :: v :: r) = w ++ c :: joinS c (v :: r) := by
      show w ++ tailS c (v :: r) = _
      simp [tailS, joinS]
    rw [e, spl_app _ (h w (by simp)), ih]
theorem joinS_inj {c : UInt8} {ws vs : List (List UInt8)} (h1 : ws ≠ []) (h2 : vs ≠ []) (h3 : ∀ w ∈ ws, c ∉ w) (h4 : ∀ w ∈ vs, c ∉ w) (h : joinS c ws = joinS c vs) : ws = vs := by
  rw [← spl_joinS h1 h3, h, spl_joinS h2 h4]
theorem joinS_app {c : UInt8} : ∀ {ws vs : List (List UInt8)}, ws ≠ [] → vs ≠ [] → joinS c (ws ++ vs) = joinS c ws ++ c :: joinS c vs
  | [], _, h, _ => absurd rfl h
  | w :: r, [], _, h => absurd rfl h
  | w :: r, v :: s, _, _ => by simp [joinS, tailS]

/-- Where a byte comes first. -/
theorem first_at {c : UInt8} {l : List UInt8} (h : c ∈ l) : ∃ w r, l = w ++ c :: r ∧ c ∉ w := by
  induction l with
  | nil => cases h
  | cons x s ih =>
    by_cases hx : x = c
    · exact ⟨[], s, by rw [hx]; rfl, by simp⟩
    · obtain ⟨w, r, e, hw⟩ := ih (by
        rcases List.mem_cons.1 h with e | e
        · exact absurd e.symm hx
        · exact e)
      refine ⟨x :: w, r, by rw [e]; rfl, ?_⟩
      rw [List.mem_cons]
      rintro (e | e)
      · exact hx e.symm
      · exact hw e
theorem index_none1 {c : UInt8} {l : List UInt8} (h : c ∉ l) : Lib.index l [c] = -1 := by
  refine Lib.index_none fun j _ => ?_
  cases ho : Lib.occAt l [c] j with
  | false => rfl
  | true =>
    have := Lib.occAt_head (t := []) rfl ho
    exact absurd (List.mem_of_getElem? this) h
theorem index_at1 {c : UInt8} {w r : List UInt8} (h : c ∉ w) : Lib.index (w ++ c :: r) [c] = w.length := by
  refine Lib.index_first (by simp) ?_ fun j hj => ?_
  · simp [Lib.occAt, List.isPrefixOf]
  · cases ho : Lib.occAt (w ++ c :: r) [c] j with
    | false => rfl
    | true =>
      have := Lib.occAt_head (t := []) rfl ho
      rw [List.getElem?_append_left hj] at this
      exact absurd (List.mem_of_getElem? this) h
theorem split_spl (c : UInt8) (l : List UInt8) : Lib.split l [c] = spl c l := by
  generalize hn : l.length = n
  induction n using Nat.strongRecOn generalizing l with
  | _ n ih =>
    unfold Lib.split
    by_cases h : c ∈ l
    · obtain ⟨w, r, rfl, hw⟩ := first_at h
      have hi := index_at1 (r := r) hw
      rw [Lib.count_hit (by simp) hi, Nat.add_comm, Lib.splitK, if_neg (by rw [hi]; simp), hi, spl_app r hw]
      have e1 : (w ++ c :: r).take ((w.length : Int).toNat + 0) = w := by simp
      have e2 : (w ++ c :: r).drop ((w.length : Int).toNat + [c].length) = r := by simp
      have e3 : (w ++ c :: r).drop (w.length + [c].length) = r := by simp
      rw [e1, e2, e3, ← ih r.length (by rw [← hn]; simp; omega) r rfl]
      rfl
    · rw [Lib.count_miss (index_none1 h), spl_free h]; rfl
end Go.PL

/- SR0 -/
namespace Go.PL
open Go Go.Proofs
set_option maxRecDepth 10000
set_option maxHeartbeats 4000000
set_option linter.unusedSimpArgs false
set_option linter.unusedVariables false
/-- Bytes of a text. -/
def bsT (t : ByteArray) : List UInt8 := t.data.toList
theorem bsT_app (a b : ByteArray) : bsT (a ++ b) = bsT a ++ bsT b := by simp [bsT, ByteArray.data_append]
theorem bsT_inj {a b : ByteArray} (h : bsT a = bsT b) : a = b := ByteArray.ext (Array.toList_inj.1 h)
theorem bsT_mk (l : List UInt8) : bsT ⟨l.toArray⟩ = l := rfl
theorem bsT_digB (n : Nat) : bsT (digB n) = Lib.decDigits n := rfl
/-- A rational's digits. -/
def ratL (b : Bool) (m n : Nat) : List UInt8 := (if b then [45] else []) ++ Lib.decDigits m ++ (if n = 1 then [] else 47 :: Lib.decDigits n)
theorem digs_one_iff {n : Nat} : digs n = [1] ↔ n = 1 := by
  constructor
  · intro h; rw [← digs_one] at h; exact digs_inj h
  · rintro rfl; exact digs_one
theorem ratTB_bs (b : Bool) (m n : Nat) : bsT (ratTB ⟨b, digs m, digs n⟩) = ratL b m n := by
  unfold ratTB ratL
  simp only [digs_one_iff, natTB_digs]
  by_cases h : n = 1
  · rw [if_pos h, if_pos h]
    cases b <;> simp [bsT_app, bsT_mk, strT]
  · rw [if_neg h, if_neg h]
    cases b <;> simp [bsT_app, bsT_mk, strT]
theorem isDg_ne {c : UInt8} (h : isDg c) (x : UInt8) (hx : x.toNat < 48 ∨ 57 < x.toNat) : c ≠ x := by
  rintro rfl; unfold isDg at h; omega
theorem dec_free (n : Nat) (x : UInt8) (hx : x.toNat < 48 ∨ 57 < x.toNat) : x ∉ Lib.decDigits n := fun h => isDg_ne (dec_dig n x h) x hx rfl
theorem ratL_free (b : Bool) (m n : Nat) : (32 : UInt8) ∉ ratL b m n := by
  have h1 := dec_free m 32 (.inl (by decide))
  have h2 := dec_free n 32 (.inl (by decide))
  unfold ratL
  by_cases h : n = 1 <;> cases b <;> simp [h, h1, h2]
theorem ratL_inj {b c : Bool} {m n u v : Nat} (h : ratL b m n = ratL c u v) : b = c ∧ m = u ∧ n = v := by
  have hd : ∀ k, ∃ x r, Lib.decDigits k = x :: r ∧ x ≠ 45 := by
    intro k
    cases e : Lib.decDigits k with
    | nil => exact absurd e (dec_ne k)
    | cons x r => exact ⟨x, r, rfl, isDg_ne (dec_dig k x (by rw [e]; simp)) 45 (.inl (by decide))⟩
  obtain ⟨x, r, e1, h1⟩ := hd m
  obtain ⟨y, s, e2, h2⟩ := hd u
  have hb : b = c := by
    unfold ratL at h
    rw [e1, e2] at h
    cases b <;> cases c <;> simp at h
    · rfl
    · exact absurd h.1 h1
    · exact absurd h.1.symm h2
    · rfl
  subst hb
  have h3 : Lib.decDigits m ++ (if n = 1 then [] else 47 :: Lib.decDigits n) = Lib.decDigits u ++ (if v = 1 then [] else 47 :: Lib.decDigits v) := by
    unfold ratL at h
    rw [List.append_assoc, List.append_assoc] at h
    exact List.append_cancel_left h
  have f1 := dec_free m 47 (.inl (by decide))
  have f2 := dec_free u 47 (.inl (by decide))
  have f3 := dec_free n 47 (.inl (by decide))
  have f4 := dec_free v 47 (.inl (by decide))
  by_cases hn : n = 1
  · by_cases hv : v = 1
    · rw [if_pos hn, if_pos hv, List.append_nil, List.append_nil] at h3
      exact ⟨rfl, dec_inj h3, by rw [hn, hv]⟩
    · rw [if_pos hn, if_neg hv, List.append_nil] at h3
      exfalso; rw [h3] at f1; simp at f1
  · by_cases hv : v = 1
    · rw [if_neg hn, if_pos hv, List.append_nil] at h3
      exfalso; rw [← h3] at f2; simp at f2
    · rw [if_neg hn, if_neg hv] at h3
      have h4 := congrArg (spl 47) h3
      rw [spl_app _ f1, spl_app _ f2, spl_free f3, spl_free f4] at h4
      injection h4 with h5 h6
      injection h6 with h7 h8
      exact ⟨rfl, dec_inj h5, dec_inj h7⟩
theorem okRat_form {r : Rt} (h : okRat r = true) : ∃ m n, r = ⟨r.neg, digs m, digs n⟩ ∧ Nat.gcd m n = 1 ∧ 0 < n ∧ (m = 0 → r.neg = false) ∧ (digs m).length ≤ 40 ∧ (digs n).length ≤ 40 := by
  obtain ⟨g, u, v⟩ := r
  obtain ⟨m, n, rfl, rfl, hm, hn⟩ := okRat_parts h
  rw [okRat_digs hm hn] at h
  simp only [Bool.and_eq_true, Bool.not_eq_true', beq_iff_eq, beq_eq_false_iff_ne, Bool.and_eq_false_iff] at h
  refine ⟨m, n, rfl, h.2, by omega, fun e => ?_, hm, hn⟩
  rcases h.1.2 with h2 | h2
  · exact absurd e h2
  · exact h2
theorem ratTB_inj {r s : Rt} (hr : okRat r = true) (hs : okRat s = true) (h : ratTB r = ratTB s) : r = s := by
  obtain ⟨m, n, e1, _⟩ := okRat_form hr
  obtain ⟨u, v, e2, _⟩ := okRat_form hs
  rw [e1, e2] at h
  have h2 := congrArg bsT h
  rw [ratTB_bs, ratTB_bs] at h2
  obtain ⟨q1, q2, q3⟩ := ratL_inj h2
  rw [e1, e2, q1, q2, q3]
theorem ratTB_free {r : Rt} (hr : okRat r = true) : (32 : UInt8) ∉ bsT (ratTB r) := by
  obtain ⟨m, n, e1, _⟩ := okRat_form hr
  rw [e1, ratTB_bs]; exact ratL_free _ _ _
theorem tl_beq {t u : ByteArray} : (t.toList == u.toList) = decide (t = u) := by
  rw [Bool.eq_iff_iff, beq_iff_eq, decide_eq_true_eq, ByteArray.toList_eq, ByteArray.toList_eq]
  exact ⟨fun h => ByteArray.ext (Array.toList_inj.1 h), fun h => by rw [h]⟩
end Go.PL
