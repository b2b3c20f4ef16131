/- A plain machine, sound for the given model, and contracts of functions over it, part 36: DS FR1. Nothing is assumed. -/
import Derived.Test.YtedbifiejciocaeGreatDoorG35
set_option linter.unusedSimpArgs false
set_option linter.unusedVariables false
set_option linter.unusedSectionVars false
/- DS -/
namespace Go.PL
open Go Go.Proofs
set_option maxRecDepth 10000
set_option maxHeartbeats 4000000
set_option linter.unusedSimpArgs false
set_option linter.unusedVariables false
/-- Bytes as data. -/
def u8D (n : Int) : D := .val (.int .u8 n)
theorem u8D_eq {n : Int} : u8D n = .val (.int .u8 n) := rfl
instance : Enc u8D 1 0 := ⟨fun _ => rfl, fun x => by simp [u8D, D.cells, D.one]⟩
attribute [go_sem] u8D_eq
abbrev encB (l : List Int) : D := .sl (l.map u8D)
def Byt (l : List Int) : Prop := ∀ x ∈ l, 0 ≤ x ∧ x < 256
theorem Byt.get {l : List Int} (h : Byt l) (i : Nat) : 0 ≤ l.getD i 0 ∧ l.getD i 0 < 256 := by
  rw [List.getD]
  cases hi : l[i]? with
  | none => simp
  | some x => exact h x (List.mem_of_getElem? hi)
/-- A source of choices: where it stands, and its seed. -/
abbrev Src := Nat × Int
def bytF (l : List Int) (σ : Src) : Int × Src :=
  if σ.1 < l.length then (l.getD σ.1 0, (σ.1 + 1, (σ.2 * 31 + l.getD σ.1 0 + 7) % 2147483648))
  else if 3000 < σ.1 + 1 then (0, (σ.1 + 1, σ.2))
  else ((σ.2 * 1103515245 + 12345) % 2147483648 / 65536 % 256, (σ.1 + 1, (σ.2 * 1103515245 + 12345) % 2147483648))
def nexF (l : List Int) (n : Int) (σ : Src) : Int × Src :=
  if n ≤ 1 then (0, σ) else if n ≤ 256 then ((bytF l σ).1 % n, (bytF l σ).2)
  else (((bytF l σ).1 * 65536 + (bytF l (bytF l σ).2).1 * 256 + (bytF l (bytF l (bytF l σ).2).2).1) % n, (bytF l (bytF l (bytF l σ).2).2).2)
/-- A right source, that stands not too far. -/
structure SOk (l : List Int) (b : Nat) (σ : Src) : Prop where
  hb : Byt l
  hl : l.length ≤ 1048576
  ha : σ.1 ≤ b
  hc : b ≤ 1000000000000
  h0 : 0 ≤ σ.2
  h1 : σ.2 < 2147483648
theorem bytF_ok {l : List Int} {b : Nat} {σ : Src} (h : SOk l b σ) (hb : b + 1 ≤ 1000000000000) : 0 ≤ (bytF l σ).1 ∧ (bytF l σ).1 < 256 ∧ SOk l (b + 1) (bytF l σ).2 := by
  have g := h.hb.get σ.1
  have a := h.ha
  have h0 := h.h0
  have h1 := h.h1
  unfold bytF
  split
  · exact ⟨g.1, g.2, ⟨h.hb, h.hl, by simp only; omega, hb, by simp only; omega, by simp only; omega⟩⟩
  · split
    · exact ⟨by simp only; omega, by simp only; omega, ⟨h.hb, h.hl, by simp only; omega, hb, h0, h1⟩⟩
    · exact ⟨by simp only; omega, by simp only; omega, ⟨h.hb, h.hl, by simp only; omega, hb, by simp only; omega, by simp only; omega⟩⟩
theorem SOk.mono {l : List Int} {b c : Nat} {σ : Src} (h : SOk l b σ) (hb : b ≤ c) (hc : c ≤ 1000000000000) : SOk l c σ := ⟨h.hb, h.hl, by have := h.ha; omega, hc, h.h0, h.h1⟩
theorem nexF_ok {l : List Int} {b : Nat} {n : Int} {σ : Src} (h : SOk l b σ) (hb : b + 3 ≤ 1000000000000) : 0 ≤ (nexF l n σ).1 ∧ (1 < n → (nexF l n σ).1 < n) ∧ SOk l (b + 3) (nexF l n σ).2 := by
  obtain ⟨a1, a2, a3⟩ := bytF_ok h (by omega)
  obtain ⟨b1, b2, b3⟩ := bytF_ok a3 (by omega)
  obtain ⟨c1, c2, c3⟩ := bytF_ok b3 (by omega)
  unfold nexF
  split
  · exact ⟨by simp only; omega, fun _ => by simp only; omega, h.mono (by omega) hb⟩
  · split
    · refine ⟨Int.emod_nonneg _ (by omega), fun _ => Int.emod_lt_of_pos _ (by omega), a3.mono (by omega) hb⟩
    · refine ⟨Int.emod_nonneg _ (by omega), fun _ => Int.emod_lt_of_pos _ (by omega), c3.mono (by omega) hb⟩
instance (l : List Int) (a : Nat) (s : Int) : ConS CC 69 [] (encB l) (.i a) (.i s) (SOk l 1000000000000 (a, s)) (.d (.i (bytF l (a, s)).1)) (encB l) (.i (bytF l (a, s)).2.1) (.i (bytF l (a, s)).2.2) := by
  constructor
  intro os o hF h
  have g := h.hb.get a
  have ha := h.ha
  have h0 := h.h0
  have h1 := h.h1
  have hl := h.hl
  simp only at ha h0 h1
  have e1 : ((a : Int) + 1).toNat - 1 = a := by omega
  have e2 : ((a : Int) + 1 - 1).toNat = a := by omega
  have e3 : ((a + 1 : Nat) : Int) = (a : Int) + 1 := by omega
  have wr : ∀ z : Int, 0 ≤ z → z < 9223372036854775808 → IntKind.i64.wrap z = z := fun z p q => w64 (by omega) q
  refine Den.newG (vs := [.d (.i (bytF l (a, s)).1)]) Tryz.func69 rfl 1 os.length [.tmp 2] (by kernel_rfl) rfl rfl (by simp only [initE_nil, initE_cons, Nat.reduceAdd]; exact rfl) rfl (by simp) (by simp) rfl (by rw [List.length_set]; exact all_set' hF.bd rfl) ?_
  by_cases c1 : a < l.length
  · have e : bytF l (a, s) = (l.getD a 0, (a + 1, (s * 31 + l.getD a 0 + 7) % 2147483648)) := if_pos c1
    rw [e]
    
    repeat' first | (with_reducible first | refine nx' ?_ (by simp -implicitDefEqProofs (disch := omega) only [go_sem, e2, Int.add_sub_cancel]; exact rfl) | refine n0 ?_ | refine rD ?_ | refine n1 ?_ | refine nilB_i fun b hb => ?_ | refine nP ?_ ?_ | refine nS fun K hK => ?_ | (refine n2 ?_ ?_ <;> intro h <;> first | subst (h : _ = true) | subst (h : _ = false) | (simp only [FX, LX, e2, Int.add_sub_cancel] at h) | skip) | refine And.intro ?_ ?_ | refine nK ‹Imp _ _› ?_) | exact nl | fail
    all_goals first
      | exact finG_of [(2, .d (.i (l.getD a 0)))] [] (by rw [List.append_nil]; simp only [e3]; exact Weak.lo)
      | skip
  · by_cases c2 : 3000 < a + 1
    · have e : bytF l (a, s) = (0, (a + 1, s)) := by unfold bytF; rw [if_neg c1, if_pos c2]
      rw [e]
      
      repeat' first | (with_reducible first | refine nx' ?_ | refine n0 ?_ | refine rD ?_ | refine n1 ?_ | refine nilB_i fun b hb => ?_ | refine nP ?_ ?_ | refine nS fun K hK => ?_ | (refine n2 ?_ ?_ <;> intro h <;> first | subst (h : _ = true) | subst (h : _ = false) | skip) | refine And.intro ?_ ?_ | refine nK ‹Imp _ _› ?_) | exact nl | fail
      all_goals first
        | exact finG_of [(2, .d (.i 0))] [] (by rw [List.append_nil]; simp only [e3]; exact Weak.lo)
        | skip
    · have e : bytF l (a, s) = ((s * 1103515245 + 12345) % 2147483648 / 65536 % 256, (a + 1, (s * 1103515245 + 12345) % 2147483648)) := by unfold bytF; rw [if_neg c1, if_neg c2]
      rw [e]
      
      repeat' first | (with_reducible first | refine nx' ?_ | refine n0 ?_ | refine rD ?_ | refine n1 ?_ | refine nilB_i fun b hb => ?_ | refine nP ?_ ?_ | refine nS fun K hK => ?_ | (refine n2 ?_ ?_ <;> intro h <;> first | subst (h : _ = true) | subst (h : _ = false) | skip) | refine And.intro ?_ ?_ | refine nK ‹Imp _ _› ?_) | exact nl | fail
      all_goals first
        | exact finG_of [(2, .d (.i ((s * 1103515245 + 12345) % 2147483648 / 65536 % 256)))] [] (by rw [List.append_nil]; simp only [e3]; exact Weak.lo)
        | skip
end Go.PL

/- FR1 -/
namespace Go.PL
open Go Go.Proofs
set_option maxRecDepth 10000
set_option maxHeartbeats 4000000
set_option linter.unusedSimpArgs false
set_option linter.unusedVariables false
instance (a b : List Int) : Con CC 25 [.d (encD a), .d (encD b)] (a.length ≤ 1048576 ∧ b.length ≤ 1048576) (.d (.b (decide (a = b)))) := by
  constructor; intro ⟨ha, hb⟩
  refine Den.pureI Tryz.func25 rfl 2 [.tmp 4] (by kernel_rfl) rfl rfl (by simp only [initE_nil, initE_cons, Nat.reduceAdd]; exact rfl) ?_
  repeat' first | (with_reducible first | refine nx' ?_ | refine n0 ?_ | refine rD ?_ | refine n1 ?_ | refine nilB_i fun b hb => ?_ | refine nP ?_ ?_ | refine nS fun K hK => ?_ | (refine n2 ?_ ?_ <;> intro h <;> first | subst (h : _ = true) | subst (h : _ = false) | skip) | refine And.intro ?_ ?_ | refine nK ‹Imp _ _› ?_) | exact nl | fail
  · congr 3; rw [eq_comm, decide_eq_false_iff_not]; rintro rfl; exact h rfl
  refine Wp.loopR (fun i : Nat => ⟨[(0, .d (encD a)), (1, .d (encD b)), (5, .d (.i i))], []⟩) (fun i => a.length - i) (fun i => i ≤ a.length ∧ a.take i = b.take i) 0 Weak.lo ⟨by simp, by simp⟩ ?_
  rintro i ⟨hi, hd⟩ K hK
  repeat' first | (with_reducible first | refine nx' ?_ | refine n0 ?_ | refine rD ?_ | refine n1 ?_ | refine nilB_i fun b hb => ?_ | refine nP ?_ ?_ | refine nS fun K hK => ?_ | (refine n2 ?_ ?_ <;> intro h <;> first | subst (h : _ = true) | subst (h : _ = false) | skip) | refine And.intro ?_ ?_ | refine nK ‹Imp _ _› ?_) | exact nl | fail
  · congr 3; rw [eq_comm, decide_eq_false_iff_not]; exact ne_of_getD h
  · exact ⟨i + 1, by omega, ⟨by omega, take_eq_succ 0 (by omega) (by omega) hd h⟩, Weak.lo⟩
  · congr 3; rw [eq_comm, decide_eq_true_eq]; exact take_all (by omega) (by omega) hd
instance (b c : Bool) (x y u v : List Int) : Con CC 11 [.d (.agg [.b b, encD x, encD y]), .d (.agg [.b c, encD u, encD v])] (x.length ≤ 1048576 ∧ y.length ≤ 1048576 ∧ u.length ≤ 1048576 ∧ v.length ≤ 1048576) (.d (.b (decide (Rt.mk b x y = Rt.mk c u v)))) := by
  constructor; intro ⟨h1, h2, h3, h4⟩
  refine Den.pureI Tryz.func11 rfl 2 [.tmp 4] (by kernel_rfl) rfl rfl (by simp only [initE_nil, initE_cons, Nat.reduceAdd]; exact rfl) ?_
  repeat' first | (with_reducible first | refine nx' ?_ | refine n0 ?_ | refine rD ?_ | refine n1 ?_ | refine nilB_i fun b hb => ?_ | refine nP ?_ ?_ | refine nS fun K hK => ?_ | (refine n2 ?_ ?_ <;> intro h <;> first | subst (h : _ = true) | subst (h : _ = false) | skip) | refine And.intro ?_ ?_ | refine nK ‹Imp _ _› ?_) | exact nl | fail
  all_goals (congr 3; simp [*])
/-- A drawn choice. -/
def atF (l : List Int) (i n : Int) : Int := if n ≤ 1 then 0 else if l.length = 0 then i * 7 % n else
  (l.getD (i % (l.length : Int)).toNat 0 * 31 + l.getD ((i + 1) % (l.length : Int)).toNat 0 + i / (l.length : Int)) % n
theorem atF_bnd {l : List Int} {i n : Int} (h : 1 ≤ n) : 0 ≤ atF l i n ∧ atF l i n < n := by
  unfold atF
  split
  · omega
  · split <;> exact ⟨Int.emod_nonneg _ (by omega), Int.emod_lt_of_pos _ (by omega)⟩
instance (l : List Int) (i n : Int) : Con CC 8 [.d (encB l), .d (.i i), .d (.i n)] (Byt l ∧ l.length ≤ 1048576 ∧ 0 ≤ i ∧ i ≤ 1000000 ∧ 0 ≤ n ∧ n ≤ 1000000) (.d (.i (atF l i n))) := by
  constructor; intro ⟨hb, hl, h1, h2, h3, h4⟩
  unfold atF
  by_cases k1 : n ≤ 1
  · rw [if_pos k1]
    refine Den.pureI Tryz.func8 rfl 3 [.tmp 6] (by kernel_rfl) rfl rfl (by simp only [initE_nil, initE_cons, Nat.reduceAdd]; exact rfl) ?_
    repeat' first | (with_reducible first | refine nx' ?_ | refine n0 ?_ | refine rD ?_ | refine n1 ?_ | refine nilB_i fun b hb => ?_ | refine nP ?_ ?_ | refine nS fun K hK => ?_ | (refine n2 ?_ ?_ <;> intro h <;> first | subst (h : _ = true) | subst (h : _ = false) | skip) | refine And.intro ?_ ?_ | refine nK ‹Imp _ _› ?_) | exact nl | fail
  · rw [if_neg k1]
    by_cases k2 : l.length = 0
    · rw [if_pos k2]
      refine Den.pureI Tryz.func8 rfl 3 [.tmp 6] (by kernel_rfl) rfl rfl (by simp only [initE_nil, initE_cons, Nat.reduceAdd]; exact rfl) ?_
      repeat' first | (with_reducible first | refine nx' ?_ (by simp -implicitDefEqProofs (disch := omega) only [go_sem, k2]; exact rfl) | refine n0 ?_ | refine rD ?_ | refine n1 ?_ | refine nilB_i fun b hb => ?_ | refine nP ?_ ?_ | refine nS fun K hK => ?_ | (refine n2 ?_ ?_ <;> intro h <;> first | subst (h : _ = true) | subst (h : _ = false) | (simp only [FX, LX, k2] at h) | skip) | refine And.intro ?_ ?_ | refine nK ‹Imp _ _› ?_) | exact nl | fail
    · rw [if_neg k2]
      have q1 := Int.emod_nonneg i (by omega : (l.length : Int) ≠ 0)
      have q2 := Int.emod_lt_of_pos i (by omega : (0 : Int) < l.length)
      have q3 := Int.emod_nonneg (i + 1) (by omega : (l.length : Int) ≠ 0)
      have q4 := Int.emod_lt_of_pos (i + 1) (by omega : (0 : Int) < l.length)
      have g1 := hb.get (i % (l.length : Int)).toNat
      have g2 := hb.get ((i + 1) % (l.length : Int)).toNat
      have q5 : 0 ≤ i / (l.length : Int) := Int.ediv_nonneg h1 (by omega)
      have q6 : i / (l.length : Int) ≤ i := Int.ediv_le_self _ h1
      refine Den.pureI Tryz.func8 rfl 3 [.tmp 6] (by kernel_rfl) rfl rfl (by simp only [initE_nil, initE_cons, Nat.reduceAdd]; exact rfl) ?_
      repeat' first | (with_reducible first | refine nx' ?_ | refine n0 ?_ | refine rD ?_ | refine n1 ?_ | refine nilB_i fun b hb => ?_ | refine nP ?_ ?_ | refine nS fun K hK => ?_ | (refine n2 ?_ ?_ <;> intro h <;> first | subst (h : _ = true) | subst (h : _ = false) | skip) | refine And.intro ?_ ?_ | refine nK ‹Imp _ _› ?_) | exact nl | fail
      all_goals first | omega | skip
theorem dec_len_le : ∀ {k n : Nat}, n < 10 ^ k → 1 ≤ k → (Lib.decDigits n).length ≤ k
  | 0, _, _, h => by omega
  | k + 1, n, hn, _ => by
    by_cases h : n < 10
    · rw [dec_small h]; simp
    · have hk : 1 ≤ k := by
        rcases Nat.eq_zero_or_pos k with e | e
        · subst e; simp at hn; omega
        · exact e
      have h1 : n / 10 < 10 ^ k := by rw [Nat.pow_succ] at hn; omega
      have := dec_len_le h1 hk
      rw [dec_step (by omega)]; simp; omega
theorem okRat_mk {b : Bool} {m n : Nat} (hn : 0 < n) (h1 : (digs m).length ≤ 40) (h2 : (digs n).length ≤ 40) : okRat ⟨(mkQ b m n).neg, digs (mkQ b m n).n, digs (mkQ b m n).d⟩ = true := by
  obtain ⟨l1, l2, l3⟩ := mkQ_len (b := b) h1 h2 hn
  rw [okRat_digs l1 l2]
  have hg := gcd_pos (m := m) hn
  have e : Nat.gcd (mkQ b m n).n (mkQ b m n).d = 1 := by
    show Nat.gcd (m / Nat.gcd m n) (n / Nat.gcd m n) = 1
    rw [Nat.gcd_div (Nat.gcd_dvd_left m n) (Nat.gcd_dvd_right m n), Nat.div_self hg]
  rw [e]
  have hd : ((mkQ b m n).d == 0) = false := by rw [beq_eq_false_iff_ne]; omega
  rw [hd]
  have hz : ((mkQ b m n).n == 0 && (mkQ b m n).neg) = false := by
    show (m / Nat.gcd m n == 0 && (b && decide (0 < m / Nat.gcd m n))) = false
    rcases Nat.eq_zero_or_pos (m / Nat.gcd m n) with h | h
    · rw [h]; simp
    · have : (m / Nat.gcd m n == 0) = false := by rw [beq_eq_false_iff_ne]; omega
      rw [this]; rfl
  rw [hz]; rfl
/-- A right rational's text is read back. -/
theorem rd_text {b : Bool} {m n : Nat} (h : okRat ⟨b, digs m, digs n⟩ = true) (h1 : (digs m).length ≤ 40) (h2 : (digs n).length ≤ 40) :
    rdOk (ratL b m n) = true ∧ rdVal (ratL b m n) = ⟨b, digs m, digs n⟩ := by
  have okd : ∀ k : Nat, (digs k).length ≤ 40 → okN (Lib.decDigits k) = true ∧ rdN (Lib.decDigits k) = k := by
    intro k hk
    obtain ⟨a1, a2, a3⟩ := dec_ok k
    have hl : (Lib.decDigits k).length ≤ 160 := by
      refine dec_len_le ?_ (by omega)
      have := digs_lt_pow k
      refine Nat.lt_of_lt_of_le this ?_
      rw [show (10000 : Nat) = 10 ^ 4 from rfl, ← Nat.pow_mul]
      exact Nat.pow_le_pow_right (by omega) (by omega)
    have ok : okN (Lib.decDigits k) = true := okN_iff.2 ⟨by cases hd : Lib.decDigits k with | nil => exact absurd hd a1 | cons _ _ => simp, hl, fun e => by
      rcases a3 with a3 | a3
      · omega
      · exact absurd e a3, a2⟩
    exact ⟨ok, by rw [rdN_yes ok, dv_dec]⟩
  obtain ⟨om, em⟩ := okd m h1
  obtain ⟨on, en⟩ := okd n h2
  have fm := dec_free m 47 (.inl (by decide))
  have fn := dec_free n 47 (.inl (by decide))
  have hng : ngT (ratL b m n) = b := by
    unfold ngT ratL
    cases b with
    | true => simp
    | false =>
      have a1 := dec_ne m
      have a2 := dec_dig m
      cases hd : Lib.decDigits m with
      | nil => exact absurd hd a1
      | cons c r =>
        have hc := isDg_ne (a2 c (by rw [hd]; simp)) 45 (.inl (by decide))
        simpa using hc
  have hbd : bdT (ratL b m n) = Lib.decDigits m ++ (if n = 1 then [] else 47 :: Lib.decDigits n) := by
    unfold bdT
    rw [hng]
    unfold ratL
    cases b <;> simp
  unfold rdOk rdVal
  rw [hng, hbd]
  by_cases hn : n = 1
  · subst hn
    rw [if_pos rfl, List.append_nil, spl_free fm]
    simp only
    rw [om, em, ← digs_one, h]
    exact ⟨rfl, rfl⟩
  · rw [if_neg hn, spl_app _ fm, spl_free fn]
    simp only
    rw [om, em, on, en, h, cmpN_eq]
    refine ⟨by simp [hn], rfl⟩
theorem mkQ_scale {b : Bool} {m n k : Nat} (hk : 0 < k) : mkQ b (k * m) (k * n) = mkQ b m n := by
  unfold mkQ
  rw [Nat.gcd_mul_left, Nat.mul_div_mul_left _ _ hk, Nat.mul_div_mul_left _ _ hk]
theorem mkQ_zero {b c : Bool} {n : Nat} : mkQ b 0 n = mkQ c 0 n := by unfold mkQ; simp
theorem div_wh (a b : Int) : divQ (whQ a) (whQ b) = mkQ (decide (a < 0) != decide (b < 0)) a.natAbs b.natAbs := by
  unfold divQ whQ; simp
theorem frat_1 (n m : Int) (hm : 0 < m) : divQ (whQ (-n * 3)) (whQ (-m * 3)) = divQ (whQ n) (whQ m) := by
  rw [div_wh, div_wh]
  have e1 : (-n * 3).natAbs = 3 * n.natAbs := by omega
  have e2 : (-m * 3).natAbs = 3 * m.natAbs := by omega
  rw [e1, e2, mkQ_scale (by omega)]
  by_cases h0 : n = 0
  · subst h0; exact mkQ_zero
  · congr 1
    rw [Bool.eq_iff_iff]; simp; omega
theorem frat_2 (n m : Int) (hm : 0 < m) : mulQ (divQ (whQ n) (whQ m)) (divQ (whQ m) (whQ 1)) = divQ (whQ n) (whQ 1) := by
  rw [div_wh, div_wh, div_wh]
  have e1 : decide (m < 0) = false := decide_eq_false (by omega)
  have e2 : mkQ (decide (m < 0) != decide ((1 : Int) < 0)) m.natAbs (1 : Int).natAbs = ⟨false, m.natAbs, 1⟩ := by
    rw [e1]; unfold mkQ
    simp
  rw [e2, e1]
  have h1 : decide ((1 : Int) < 0) = false := rfl
  rw [h1]
  generalize n.natAbs = p
  generalize decide (n < 0) = b
  have hm' : 0 < m.natAbs := by omega
  generalize m.natAbs = q at *
  have hg := gcd_pos (m := p) hm'
  obtain ⟨v, hv⟩ := Nat.gcd_dvd_right p q
  obtain ⟨u, hu⟩ := Nat.gcd_dvd_left p q
  have e3 : p / Nat.gcd p q = u := by rw [Nat.div_eq_iff_eq_mul_right hg (Nat.gcd_dvd_left p q)]; exact hu
  have e4 : q / Nat.gcd p q = v := by rw [Nat.div_eq_iff_eq_mul_right hg (Nat.gcd_dvd_right p q)]; exact hv
  have hv0 : 0 < v := by rcases Nat.eq_zero_or_pos v with h | h; (rw [h] at hv; omega); exact h
  have e5 : u * q = v * p := by
    have a1 : u * q = u * (Nat.gcd p q * v) := congrArg (u * ·) hv
    have a2 : v * p = v * (Nat.gcd p q * u) := congrArg (v * ·) hu
    rw [a1, a2, Nat.mul_left_comm, Nat.mul_left_comm v, Nat.mul_comm u v]
  show mkQ (((b != false) && decide (0 < p / Nat.gcd p q)) != false) (p / Nat.gcd p q * q) (q / Nat.gcd p q * 1) = mkQ (b != false) p 1
  rw [e3, e4, e5, mkQ_scale hv0]
  rcases Nat.eq_zero_or_pos p with h | h
  · rw [h]; exact mkQ_zero
  · have hu0 : 0 < u := by rcases Nat.eq_zero_or_pos u with k | k; (rw [k] at hu; omega); exact k
    rw [decide_eq_true hu0]; cases b <;> rfl
end Go.PL
