/- A plain machine, sound for the given model, and contracts of functions over it, part 28: RN. Nothing is assumed. -/
import Derived.Test.YtedbifiejciocadGreatDoorG27
set_option linter.unusedSimpArgs false
set_option linter.unusedVariables false
set_option linter.unusedSectionVars false
/- RN -/
namespace Go.PL
open Go Go.Proofs
set_option maxRecDepth 10000
set_option maxHeartbeats 4000000
set_option linter.unusedSimpArgs false
set_option linter.unusedVariables false
instance (c : Int) : Con CC 26 [.d (.val (.int .u8 c))] True (.d (.b (decide (48 ≤ c) && decide (c ≤ 57)))) := by
  constructor; intro _
  refine Den.pureI Tryz.func26 rfl 1 [.tmp 2] (by kernel_rfl) rfl rfl (by simp only [initE_nil, initE_cons, Nat.reduceAdd]; exact rfl) ?_
  repeat' first | (with_reducible first | refine nx' ?_ | refine n0 ?_ | refine rD ?_ | refine n1 ?_ | refine nilB_i fun b hb => ?_ | refine nP ?_ ?_ | refine nS fun K hK => ?_ | (refine n2 ?_ ?_ <;> intro h <;> first | subst (h : _ = true) | subst (h : _ = false) | skip) | refine And.intro ?_ ?_ | refine nK ‹Imp _ _› ?_) | exact nl | fail
  all_goals (congr 3; simp; try omega)
instance (c : Int) : Con CC 33 [.d (.val (.int .u8 c))] True (.d (.b (decide (48 ≤ c) && decide (c ≤ 57)))) := by
  constructor; intro _
  refine Den.pureI Tryz.func33 rfl 1 [.tmp 2] (by kernel_rfl) rfl rfl (by simp only [initE_nil, initE_cons, Nat.reduceAdd]; exact rfl) ?_
  repeat' first | (with_reducible first | refine nx' ?_ | refine n0 ?_ | refine rD ?_ | refine n1 ?_ | refine nilB_i fun b hb => ?_ | refine nP ?_ ?_ | refine nS fun K hK => ?_ | (refine n2 ?_ ?_ <;> intro h <;> first | subst (h : _ = true) | subst (h : _ = false) | skip) | refine And.intro ?_ ?_ | refine nK ‹Imp _ _› ?_) | exact nl | fail
  all_goals (congr 3; simp; try omega)
instance (c : UInt8) : Decidable (isDg c) := by unfold isDg; infer_instance
/-- Is it a natural number's text? -/
def okN (l : List UInt8) : Bool := decide (1 ≤ l.length ∧ l.length ≤ 160) && !(decide (l.getD 0 0 = 48) && decide (1 < l.length)) && decide (∀ c ∈ l, isDg c)
theorem okN_iff {l : List UInt8} : okN l = true ↔ 1 ≤ l.length ∧ l.length ≤ 160 ∧ (l.getD 0 0 = 48 → l.length ≤ 1) ∧ ∀ c ∈ l, isDg c := by
  unfold okN
  simp only [Bool.and_eq_true, decide_eq_true_eq, Bool.not_eq_true', Bool.and_eq_false_iff, decide_eq_false_iff_not, and_assoc]
  constructor
  · rintro ⟨a, b, c, d⟩; exact ⟨a, b, fun h => by rcases c with c | c; exact absurd h c; omega, d⟩
  · rintro ⟨a, b, c, d⟩; exact ⟨a, b, by by_cases h : l.getD 0 0 = 48; exact .inr (by have := c h; omega); exact .inl h, d⟩
theorem okN_not {l : List UInt8} (h : ¬ (1 ≤ l.length ∧ l.length ≤ 160 ∧ (l.getD 0 0 = 48 → l.length ≤ 1) ∧ ∀ c ∈ l, isDg c)) : okN l = false := by
  rw [Bool.eq_false_iff]; exact fun hk => h (okN_iff.1 hk)
/-- The number that a text is; 0 of others. -/
def rdN (l : List UInt8) : Nat := if okN l then dv l else 0
theorem rdN_yes {l : List UInt8} (h : okN l = true) : rdN l = dv l := if_pos h
theorem rdN_no {l : List UInt8} (h : okN l = false) : rdN l = 0 := by unfold rdN; rw [h]; rfl
theorem strT_nil {l : List UInt8} : strT l = ⟨#[]⟩ ↔ l = [] := by
  constructor
  · intro h
    have := congrArg (fun t : ByteArray => t.data.toList) h
    simpa [strT] using this
  · rintro rfl; rfl
theorem u48 {c : UInt8} : ((c.toNat : Nat) : Int) = 48 ↔ c = 48 := by
  constructor
  · intro h
    have h2 : c.toNat = 48 := by omega
    exact UInt8.toNat_inj.1 (by rw [h2]; rfl)
  · rintro rfl; rfl
theorem w8 {n : Int} (h1 : 0 ≤ n) (h2 : n < 256) : IntKind.wrap .u8 n = n := by
  show n % 256 = n
  omega
theorem dv_take {l : List UInt8} {b j : Nat} (h : b + j < l.length) : dv ((l.drop b).take (j + 1)) = dv ((l.drop b).take j) * 10 + ((l.getD (b + j) 0).toNat - 48) := by
  rw [List.take_add_one, List.getElem?_drop, List.getElem?_eq_getElem h, Option.toList_some, dv_snoc, List.getD, List.getElem?_eq_getElem h]; rfl
theorem dv_part {l : List UInt8} {b j : Nat} (h : b + j ≤ l.length) : dv (l.take (b + j)) = dv (l.take b) * 10 ^ j + dv ((l.drop b).take j) := by
  rw [List.take_add, dv_app, List.length_take, List.length_drop, Nat.min_eq_left (by omega)]
set_option maxHeartbeats 4000000 in
instance (l : List UInt8) : Con CC 17 [.d (.s (strT l))] (l.length ≤ 1048576) (.tup [.d (encD (digs (rdN l))), .d (.b (okN l))]) := by
  constructor; intro ht
  have hsz : (strT l).size = l.length := strT_size
  have hdt : (strT l).data.toList = l := rfl
  have fin : okN l = false → V.tup [V.d (D.sl []), V.d (D.b false)] = V.tup [V.d (encD (digs (rdN l))), V.d (D.b (okN l))] := fun h => by rw [rdN_no h, h, digs_zero]; rfl
  by_cases hl : l = []
  · have e0 : ((strT l).toList == (ByteArray.mk #[]).toList) = true := by rw [tl_beq, decide_eq_true_eq]; exact strT_nil.2 hl
    refine Den.pureI Tryz.func17 rfl 1 [.tmp 2, .tmp 3] (by kernel_rfl) rfl rfl (by simp only [initE_nil, initE_cons, Nat.reduceAdd]; exact rfl) ?_
    repeat' first | (with_reducible first | refine nx' ?_ (by simp -implicitDefEqProofs (disch := omega) only [go_sem, hsz, hdt, e0]; exact rfl) | refine n0 ?_ | refine rD ?_ | refine n1 ?_ | refine nilB_i fun b hb => ?_ | refine nP ?_ ?_ | refine nS fun K hK => ?_ | (refine n2 ?_ ?_ <;> intro h <;> first | subst (h : _ = true) | subst (h : _ = false) | (simp only [FX, LX, hsz, hdt, e0] at h) | skip) | refine And.intro ?_ ?_ | refine nK ‹Imp _ _› ?_) | exact nl | fail
    exact fin (okN_not fun h => by rw [hl] at h; have := h.1; simp at this)
  · have e0 : ((strT l).toList == (ByteArray.mk #[]).toList) = false := by rw [tl_beq, decide_eq_false_iff_not]; exact fun h => hl (strT_nil.1 h)
    have hl1 : 1 ≤ l.length := by cases l; exact absurd rfl hl; simp
    have hm : ∀ i, i < l.length → l.getD i 0 ∈ l := fun i hi => getD_mem 0 hi
    by_cases h160 : l.length ≤ 160
    · by_cases h48 : l.getD 0 0 = 48 ∧ 1 < l.length
      · have h49 := u48.2 h48.1
        refine Den.pureI Tryz.func17 rfl 1 [.tmp 2, .tmp 3] (by kernel_rfl) rfl rfl (by simp only [initE_nil, initE_cons, Nat.reduceAdd]; exact rfl) ?_
        repeat' first | (with_reducible first | refine nx' ?_ (by simp -implicitDefEqProofs (disch := omega) only [go_sem, hsz, hdt, e0, h49]; exact rfl) | refine n0 ?_ | refine rD ?_ | refine n1 ?_ | refine nilB_i fun b hb => ?_ | refine nP ?_ ?_ | refine nS fun K hK => ?_ | (refine n2 ?_ ?_ <;> intro h <;> first | subst (h : _ = true) | subst (h : _ = false) | (simp only [FX, LX, hsz, hdt, e0, h49] at h) | skip) | refine And.intro ?_ ?_ | refine nK ‹Imp _ _› ?_) | exact nl | fail
        all_goals exact fin (okN_not fun h => by have := h.2.2.1 h48.1; omega)
      · have h49 : ((l.getD 0 0).toNat : Int) = 48 → l.length ≤ 1 := fun h => by have := mt (And.intro (u48.1 h)) h48; omega
        refine Den.pureI Tryz.func17 rfl 1 [.tmp 2, .tmp 3] (by kernel_rfl) rfl rfl (by simp only [initE_nil, initE_cons, Nat.reduceAdd]; exact rfl) ?_
        repeat' first | (with_reducible first | refine nx' ?_ (by simp -implicitDefEqProofs (disch := omega) only [go_sem, hsz, hdt, e0]; exact rfl) | refine n0 ?_ | refine rD ?_ | refine n1 ?_ | refine nilB_i fun b hb => ?_ | refine nP ?_ ?_ | refine nS fun K hK => ?_ | (refine n2 ?_ ?_ <;> intro h <;> first | subst (h : _ = true) | subst (h : _ = false) | (simp only [FX, LX, hsz, hdt, e0] at h) | skip) | refine And.intro ?_ ?_ | refine nK ‹Imp _ _› ?_) | exact nl | fail
        all_goals
          clear h
          refine Wp.loopR (fun i : Nat => ⟨[(0, .d (.s (strT l))), (4, .d (.i i))], []⟩) (fun i => l.length - i) (fun i => i ≤ l.length ∧ ∀ t, t < i → isDg (l.getD t 0)) 0 Weak.lo ⟨by simp, by intro t ht; omega⟩ ?_
          rintro i ⟨hi, hd⟩ K hK
          by_cases hil : i < l.length
          · repeat' first | (with_reducible first | refine nx' ?_ (by simp -implicitDefEqProofs (disch := omega) only [go_sem, hsz, hdt]; exact rfl) | refine n0 ?_ | refine rD ?_ | refine n1 ?_ | refine nilB_i fun b hb => ?_ | refine nP ?_ ?_ | refine nS fun K hK => ?_ | (refine n2 ?_ ?_ <;> intro h <;> first | subst (h : _ = true) | subst (h : _ = false) | (simp only [FX, LX, hsz, hdt] at h) | skip) | refine And.intro ?_ ?_ | refine nK ‹Imp _ _› ?_) | exact nl | fail
            all_goals first
              | exact ⟨i + 1, by omega, ⟨by omega, fun t ht => by rcases (show t < i ∨ t = i by omega) with e | e; exact hd t e; subst e; unfold isDg; omega⟩, Weak.lo⟩
              | exact fin (okN_not fun h => by have := h.2.2.2 _ (hm i hil); unfold isDg at this; omega)
              | skip
          · have hall : ∀ c ∈ l, isDg c := fun c hc => by
              obtain ⟨t, ht, rfl⟩ := List.mem_iff_getElem.1 hc
              have := hd t (by omega)
              rwa [List.getD, List.getElem?_eq_getElem ht] at this
            have hok : okN l = true := okN_iff.2 ⟨hl1, h160, fun h => by have := h49 (u48.2 h); omega, hall⟩
            repeat' first | (with_reducible first | refine nx' ?_ (by simp -implicitDefEqProofs (disch := omega) only [go_sem, hsz, hdt]; exact rfl) | refine n0 ?_ | refine rD ?_ | refine n1 ?_ | refine nilB_i fun b hb => ?_ | refine nP ?_ ?_ | refine nS fun K hK => ?_ | (refine n2 ?_ ?_ <;> intro h <;> first | subst (h : _ = true) | subst (h : _ = false) | (simp only [FX, LX, hsz, hdt] at h) | skip) | refine And.intro ?_ ?_ | refine nK ‹Imp _ _› ?_) | exact nl | fail
            refine Wp.loopR (fun x : Nat × List Int => ⟨[(0, .d (.s (strT l))), (5, .msl 0 0 x.2.length), (6, .d (.i ((l.length : Int) - 4 * x.1)))], [.arr 1 (x.2.map .i) false]⟩) (fun x => l.length + 4 - 4 * x.1) (fun x => 4 * x.1 ≤ l.length + 3 ∧ x.2.length = x.1 ∧ Dig x.2 ∧ val x.2 + 10000 ^ x.1 * (dv (l.take (l.length - 4 * x.1)) : Int) = dv l) (0, []) Weak.lo ⟨by simp, rfl, (by intro x h; cases h), by simp [val]⟩ ?_
            rintro ⟨k, out⟩ ⟨hk, hlo, hdo, hv⟩ K2 hK2
            simp only at hk hlo hdo hv ⊢
            by_cases hke : 4 * k < l.length
            · obtain ⟨b, hb⟩ : ∃ b, b = l.length - 4 * k - 4 := ⟨_, rfl⟩
              have hmx : max 0 ((l.length : Int) - 4 * k - 4) = (b : Int) := by omega
              repeat' first | (with_reducible first | refine nx' ?_ (by simp -implicitDefEqProofs (disch := omega) only [go_sem, hsz, hdt, hmx]; exact rfl) | refine n0 ?_ | refine rD ?_ | refine n1 ?_ | refine nilB_i fun b hb => ?_ | refine nP ?_ ?_ | refine nS fun K hK => ?_ | (refine n2 ?_ ?_ <;> intro h <;> first | subst (h : _ = true) | subst (h : _ = false) | (simp only [FX, LX, hsz, hdt, hmx] at h) | skip) | refine And.intro ?_ ?_ | refine nK ‹Imp _ _› ?_) | exact nl | fail
              refine Wp.loopR (fun j : Nat => ⟨[(0, .d (.s (strT l))), (5, .msl 0 0 out.length), (6, .d (.i ((l.length : Int) - 4 * k))), (7, .d (.i (dv ((l.drop b).take j)))), (8, .d (.i ((b + j : Nat) : Int)))], [.arr 1 (out.map .i) false]⟩) (fun j => l.length - 4 * k - b - j) (fun j => b + j ≤ l.length - 4 * k) 0 Weak.lo (by omega) ?_
              rintro j hj K3 hK3
              have hdb : ∀ c ∈ (l.drop b).take j, isDg c := fun c hc => hall c (List.mem_of_mem_drop (List.mem_of_mem_take hc))
              have hn := dv_lt hdb
              have hn4 : dv ((l.drop b).take j) < 10 ^ 4 := Nat.lt_of_lt_of_le hn (Nat.pow_le_pow_right (by omega) (by rw [List.length_take]; omega))
              by_cases hje : b + j < l.length - 4 * k
              · have hc := hall _ (hm (b + j) (by omega))
                unfold isDg at hc
                have hst := dv_take (l := l) (b := b) (j := j) (by omega)
                have hval : IntKind.i64.wrap (10 * (dv ((l.drop b).take j) : Int) + IntKind.i64.wrap (IntKind.u8.wrap (((l.getD (b + j) 0).toNat : Int) - 48))) = ((dv ((l.drop b).take (j + 1)) : Nat) : Int) := by
                  have q1 : IntKind.wrap .i64 (((l.getD (b + j) 0).toNat : Int) - 48) = ((l.getD (b + j) 0).toNat : Int) - 48 := w64 (by omega) (by omega)
                  rw [w8 (by omega) (by omega), q1, w64 (by omega) (by omega), hst]; omega
                repeat' first | (with_reducible first | refine nx' ?_ (by simp -implicitDefEqProofs (disch := omega) only [go_sem, hsz, hdt]; exact rfl) | refine n0 ?_ | refine rD ?_ | refine n1 ?_ | refine nilB_i fun b hb => ?_ | refine nP ?_ ?_ | refine nS fun K hK => ?_ | (refine n2 ?_ ?_ <;> intro h <;> first | subst (h : _ = true) | subst (h : _ = false) | (simp only [FX, LX, hsz, hdt] at h) | skip) | refine And.intro ?_ ?_ | refine nK ‹Imp _ _› ?_) | exact nl | fail
                exact ⟨j + 1, by omega, by omega, (Weak.low (by simp -implicitDefEqProofs (disch := omega) only [go_sem, sub_nil, sub_cons, LX, hval]; try ((repeat' refine And.intro ?_ ?_) <;> first | rfl | trivial | (congr 3; omega) | (congr 1; omega))))⟩
              · have ej : b + j = l.length - 4 * k := by omega
                repeat' first | (with_reducible first | refine nx' ?_ (by simp -implicitDefEqProofs (disch := omega) only [go_sem, hsz, hdt]; exact rfl) | refine n0 ?_ | refine rD ?_ | refine n1 ?_ | refine nilB_i fun b hb => ?_ | refine nP ?_ ?_ | refine nS fun K hK => ?_ | (refine n2 ?_ ?_ <;> intro h <;> first | subst (h : _ = true) | subst (h : _ = false) | (simp only [FX, LX, hsz, hdt] at h) | skip) | refine And.intro ?_ ?_ | refine nK ‹Imp _ _› ?_) | exact nl | fail
                exact ⟨(k + 1, out ++ [((dv ((l.drop b).take j) : Nat) : Int)]), by simp only; omega, ⟨by simp only; omega, by simp [hlo], fun x hx => by
                    rcases List.mem_append.1 hx with h | h
                    · exact hdo x h
                    · rw [List.mem_singleton.1 h]; omega, by
                    have hs := dv_part (l := l) (b := b) (j := j) (by omega)
                    rw [← ej, hs] at hv
                    have hb2 : l.length - 4 * (k + 1) = b := by omega
                    have hz : dv (l.take b) * 10 ^ j = dv (l.take b) * 10000 := by
                      by_cases hb0 : b = 0
                      · rw [hb0, List.take_zero, dv_nil, Nat.zero_mul, Nat.zero_mul]
                      · rw [show j = 4 by omega]
                    rw [hz] at hv
                    show val (out ++ [_]) + 10000 ^ (k + 1) * ((dv (l.take (l.length - 4 * (k + 1))) : Nat) : Int) = _
                    rw [hb2, val_snoc, hlo, ← hv, Int.pow_succ]
                    generalize (10000 : Int) ^ k = p
                    generalize dv (l.take b) = A
                    generalize dv ((l.drop b).take j) = n
                    have hc : ((A * 10000 + n : Nat) : Int) = (A : Int) * 10000 + (n : Int) := by omega
                    rw [hc]
                    grind⟩, Weak.cu⟩
            · repeat' first | (with_reducible first | refine nx' ?_ (by simp -implicitDefEqProofs (disch := omega) only [go_sem, hsz, hdt]; exact rfl) | refine n0 ?_ | refine rD ?_ | refine n1 ?_ | refine nilB_i fun b hb => ?_ | refine nP ?_ ?_ | refine nS fun K hK => ?_ | (refine n2 ?_ ?_ <;> intro h <;> first | subst (h : _ = true) | subst (h : _ = false) | (simp only [FX, LX, hsz, hdt] at h) | skip) | refine And.intro ?_ ?_ | refine nK ‹Imp _ _› ?_) | exact nl | fail
              rw [show l.length - 4 * k = 0 by omega, List.take_zero, dv_nil, Int.natCast_zero, Int.mul_zero, Int.add_zero] at hv
              rw [hok, rdN_yes hok, ← digs_val hdo, hv]
              rfl
    · refine Den.pureI Tryz.func17 rfl 1 [.tmp 2, .tmp 3] (by kernel_rfl) rfl rfl (by simp only [initE_nil, initE_cons, Nat.reduceAdd]; exact rfl) ?_
      repeat' first | (with_reducible first | refine nx' ?_ (by simp -implicitDefEqProofs (disch := omega) only [go_sem, hsz, hdt, e0]; exact rfl) | refine n0 ?_ | refine rD ?_ | refine n1 ?_ | refine nilB_i fun b hb => ?_ | refine nP ?_ ?_ | refine nS fun K hK => ?_ | (refine n2 ?_ ?_ <;> intro h <;> first | subst (h : _ = true) | subst (h : _ = false) | (simp only [FX, LX, hsz, hdt, e0] at h) | skip) | refine And.intro ?_ ?_ | refine nK ‹Imp _ _› ?_) | exact nl | fail
      all_goals exact fin (okN_not fun h => by omega)
end Go.PL
