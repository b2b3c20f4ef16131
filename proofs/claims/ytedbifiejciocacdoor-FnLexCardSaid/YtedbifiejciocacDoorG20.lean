/- A plain machine, sound for the given model, and contracts of functions over it, part 20: LX2 AK. Nothing is assumed. -/
import Derived.Test.YtedbifiejciocacDoorLX1
set_option linter.unusedSimpArgs false
set_option linter.unusedVariables false
set_option linter.unusedSectionVars false
/- LX2 -/
namespace Go.PL
open Go Go.Proofs
set_option maxRecDepth 10000
set_option maxHeartbeats 4000000
set_option linter.unusedSimpArgs false
set_option linter.unusedVariables false
instance (l : List UInt8) : Con CC 49 [.d (.s (strT l))] (1 ≤ l.length ∧ l.length ≤ 18 ∧ ∀ c ∈ l, isDg c) (.tup [.d (.i (dv l)), .d (.b (numOk l))]) :=
  ⟨fun h => Den.ext ⟨rfl, rfl, .inr (.inr (.inr ⟨rfl, l, h.1, h.2.1, h.2.2, rfl, rfl⟩))⟩⟩
theorem digF_dg (l : List UInt8) : ∀ c ∈ digF l, isDg c := fun c hc => by
  have := List.all_takeWhile (l := l) (p := fun c => decide (isDg c))
  rw [List.all_eq_true] at this
  exact of_decide_eq_true (this c hc)
/-- The token with which a text begins, and how long it is; 0 without one. -/
def nextF (l : List UInt8) : Tk × Nat :=
  if digF l = [] then
    if l.getD 0 0 = 120 ∧ 1 < l.length ∧ 48 ≤ (l.getD 1 0).toNat ∧ (l.getD 1 0).toNat ≤ 51 then (⟨2, ((l.getD 1 0).toNat : Int) - 48, ⟨#[]⟩⟩, 2)
    else if punctB (strT (l.take 1)) = true then (⟨3, 0, strT (l.take 1)⟩, 1) else (tk0, 0)
  else if numOk (digF l) = true then (⟨1, dv (digF l), ⟨#[]⟩⟩, (digF l).length) else (tk0, 0)
theorem wrap8u {n : Int} (h1 : 48 ≤ n) (h2 : n < 256) : IntKind.wrap .u8 (n - 48) = n - 48 := wrap8 (by omega) (by omega)
instance (l : List UInt8) : Con CC 36 [.d (.s (strT l))] (1 ≤ l.length ∧ l.length ≤ 1048576 ∧ (digF l).length ≤ 18) (.tup [.d (encTk (nextF l).1), .d (.i ((nextF l).2 : Nat))]) := by
  constructor; intro ⟨hl1, hl2, hd⟩
  have hsz : (strT l).size = l.length := strT_size
  have hdt : (strT l).data.toList = l := rfl
  have hx : (strT l).extract 0 1 = strT (l.take 1) := by rw [strT_ext]; simp
  have hx1 : (strT (l.take 1)).size = 1 := by rw [strT_size, List.length_take]; omega
  have hdz : (strT (digF l)).size = (digF l).length := strT_size
  have hdg := digF_dg l
  have hc0 : (l.getD 0 0).toNat < 256 := UInt8.toNat_lt _
  have hc1 : (l.getD 1 0).toNat < 256 := UInt8.toNat_lt _
  by_cases h0 : digF l = []
  · have q0 : ((strT (digF l)).toList == (⟨#[]⟩ : ByteArray).toList) = true := by rw [sNil, strT_eq, h0]; rfl
    have hp1 := has1_punct hx1
    by_cases hx0 : ((l.getD 0 0).toNat : Int) = 120
    · have hx0' : l.getD 0 0 = 120 := by
        apply UInt8.toNat_inj.1
        show (l.getD 0 0).toNat = 120
        omega
      by_cases h1 : 1 < l.length ∧ 48 ≤ (l.getD 1 0).toNat ∧ (l.getD 1 0).toNat ≤ 51
      · have hn : nextF l = (⟨2, ((l.getD 1 0).toNat : Int) - 48, ⟨#[]⟩⟩, 2) := by
          unfold nextF; rw [if_pos h0, if_pos ⟨hx0', h1⟩]
        obtain ⟨g1, g2, g3⟩ := h1
        have hw := wrap8u (n := ((l.getD 1 0).toNat : Int)) (by omega) (by omega)
        rw [hn]
        refine Den.pureI Tryd.func36 rfl 1 [.cell 2 31, .tmp 3] (by kernel_rfl) rfl rfl (by simp only [initE_nil, initE_cons, Nat.reduceAdd]; exact rfl) ?_
        repeat' first | (with_reducible first | refine nx' ?_ (by simp -implicitDefEqProofs (disch := omega) only [go_sem, hsz, hdt, hdz, q0, hx0, hw]; exact rfl) | refine n0 ?_ | refine rD ?_ | refine n1 ?_ | refine nilB_i fun b hb => ?_ | refine nP ?_ ?_ | refine nS fun K hK => ?_ | (refine n2 ?_ ?_ <;> intro h <;> first | subst (h : _ = true) | subst (h : _ = false) | (simp only [FX, LX, hsz, hdt, hdz, q0, hx0, hw] at h) | skip) | refine And.intro ?_ ?_ | refine nK ‹Imp _ _› ?_) | exact nl | fail
        all_goals first | rfl | (exfalso; omega) | skip
      · by_cases h2 : punctB (strT (l.take 1)) = true
        · have hn : nextF l = (⟨3, 0, strT (l.take 1)⟩, 1) := by unfold nextF; rw [if_pos h0, if_neg (fun q => h1 q.2), if_pos h2]
          rw [h2] at hp1
          rw [hn]
          refine Den.pureI Tryd.func36 rfl 1 [.cell 2 31, .tmp 3] (by kernel_rfl) rfl rfl (by simp only [initE_nil, initE_cons, Nat.reduceAdd]; exact rfl) ?_
          repeat' first | (with_reducible first | refine nx' ?_ (by simp -implicitDefEqProofs (disch := omega) only [go_sem, hsz, hdt, hdz, q0, hx0, hx, hx1, hp1]; exact rfl) | refine n0 ?_ | refine rD ?_ | refine n1 ?_ | refine nilB_i fun b hb => ?_ | refine nP ?_ ?_ | refine nS fun K hK => ?_ | (refine n2 ?_ ?_ <;> intro h <;> first | subst (h : _ = true) | subst (h : _ = false) | (simp only [FX, LX, hsz, hdt, hdz, q0, hx0, hx, hx1, hp1] at h) | skip) | refine And.intro ?_ ?_ | refine nK ‹Imp _ _› ?_) | exact nl | fail
          all_goals first | rfl | (exfalso; omega) | skip
        · have hn : nextF l = (tk0, 0) := by unfold nextF; rw [if_pos h0, if_neg (fun q => h1 q.2), if_neg h2]
          rw [Bool.eq_false_iff.2 h2] at hp1
          rw [hn]
          refine Den.pureI Tryd.func36 rfl 1 [.cell 2 31, .tmp 3] (by kernel_rfl) rfl rfl (by simp only [initE_nil, initE_cons, Nat.reduceAdd]; exact rfl) ?_
          repeat' first | (with_reducible first | refine nx' ?_ (by simp -implicitDefEqProofs (disch := omega) only [go_sem, hsz, hdt, hdz, q0, hx0, hx, hx1, hp1]; exact rfl) | refine n0 ?_ | refine rD ?_ | refine n1 ?_ | refine nilB_i fun b hb => ?_ | refine nP ?_ ?_ | refine nS fun K hK => ?_ | (refine n2 ?_ ?_ <;> intro h <;> first | subst (h : _ = true) | subst (h : _ = false) | (simp only [FX, LX, hsz, hdt, hdz, q0, hx0, hx, hx1, hp1] at h) | skip) | refine And.intro ?_ ?_ | refine nK ‹Imp _ _› ?_) | exact nl | fail
          all_goals first | rfl | (exfalso; omega) | skip
    · have hx0' : ¬ l.getD 0 0 = 120 := by
        intro q
        rw [q] at hx0
        exact hx0 rfl
      by_cases h2 : punctB (strT (l.take 1)) = true
      · have hn : nextF l = (⟨3, 0, strT (l.take 1)⟩, 1) := by unfold nextF; rw [if_pos h0, if_neg (fun q => hx0' q.1), if_pos h2]
        rw [h2] at hp1
        rw [hn]
        refine Den.pureI Tryd.func36 rfl 1 [.cell 2 31, .tmp 3] (by kernel_rfl) rfl rfl (by simp only [initE_nil, initE_cons, Nat.reduceAdd]; exact rfl) ?_
        repeat' first | (with_reducible first | refine nx' ?_ (by simp -implicitDefEqProofs (disch := omega) only [go_sem, hsz, hdt, hdz, q0, hx0, hx, hx1, hp1]; exact rfl) | refine n0 ?_ | refine rD ?_ | refine n1 ?_ | refine nilB_i fun b hb => ?_ | refine nP ?_ ?_ | refine nS fun K hK => ?_ | (refine n2 ?_ ?_ <;> intro h <;> first | subst (h : _ = true) | subst (h : _ = false) | (simp only [FX, LX, hsz, hdt, hdz, q0, hx0, hx, hx1, hp1] at h) | skip) | refine And.intro ?_ ?_ | refine nK ‹Imp _ _› ?_) | exact nl | fail
        all_goals first | rfl | (exfalso; omega) | skip
      · have hn : nextF l = (tk0, 0) := by unfold nextF; rw [if_pos h0, if_neg (fun q => hx0' q.1), if_neg h2]
        rw [Bool.eq_false_iff.2 h2] at hp1
        rw [hn]
        refine Den.pureI Tryd.func36 rfl 1 [.cell 2 31, .tmp 3] (by kernel_rfl) rfl rfl (by simp only [initE_nil, initE_cons, Nat.reduceAdd]; exact rfl) ?_
        repeat' first | (with_reducible first | refine nx' ?_ (by simp -implicitDefEqProofs (disch := omega) only [go_sem, hsz, hdt, hdz, q0, hx0, hx, hx1, hp1]; exact rfl) | refine n0 ?_ | refine rD ?_ | refine n1 ?_ | refine nilB_i fun b hb => ?_ | refine nP ?_ ?_ | refine nS fun K hK => ?_ | (refine n2 ?_ ?_ <;> intro h <;> first | subst (h : _ = true) | subst (h : _ = false) | (simp only [FX, LX, hsz, hdt, hdz, q0, hx0, hx, hx1, hp1] at h) | skip) | refine And.intro ?_ ?_ | refine nK ‹Imp _ _› ?_) | exact nl | fail
        all_goals first | rfl | (exfalso; omega) | skip
  · have q0 : ((strT (digF l)).toList == (⟨#[]⟩ : ByteArray).toList) = false := by rw [sNil, strT_eq, decide_eq_false_iff_not]; exact h0
    have hl0 : 1 ≤ (digF l).length := by
      cases hq : digF l with
      | nil => exact absurd hq h0
      | cons c r => simp
    by_cases h1 : numOk (digF l) = true
    · have hn : nextF l = (⟨1, dv (digF l), ⟨#[]⟩⟩, (digF l).length) := by unfold nextF; rw [if_neg h0, if_pos h1]
      rw [hn]
      refine Den.pureI Tryd.func36 rfl 1 [.cell 2 31, .tmp 3] (by kernel_rfl) rfl rfl (by simp only [initE_nil, initE_cons, Nat.reduceAdd]; exact rfl) ?_
      repeat' first | (with_reducible first | refine nx' ?_ (by simp -implicitDefEqProofs (disch := omega) only [go_sem, hsz, hdt, hdz, q0, h1]; exact rfl) | refine n0 ?_ | refine rD ?_ | refine n1 ?_ | refine nilB_i fun b hb => ?_ | refine nP ?_ ?_ | refine nS fun K hK => ?_ | (refine n2 ?_ ?_ <;> intro h <;> first | subst (h : _ = true) | subst (h : _ = false) | (simp only [FX, LX, hsz, hdt, hdz, q0, h1] at h) | skip) | refine And.intro ?_ ?_ | refine nK ‹Imp _ _› ?_) | exact nl | fail
      all_goals first | rfl | (exfalso; omega) | skip
    · have hn : nextF l = (tk0, 0) := by unfold nextF; rw [if_neg h0, if_neg h1]
      rw [hn]
      refine Den.pureI Tryd.func36 rfl 1 [.cell 2 31, .tmp 3] (by kernel_rfl) rfl rfl (by simp only [initE_nil, initE_cons, Nat.reduceAdd]; exact rfl) ?_
      repeat' first | (with_reducible first | refine nx' ?_ (by simp -implicitDefEqProofs (disch := omega) only [go_sem, hsz, hdt, hdz, q0, h1]; exact rfl) | refine n0 ?_ | refine rD ?_ | refine n1 ?_ | refine nilB_i fun b hb => ?_ | refine nP ?_ ?_ | refine nS fun K hK => ?_ | (refine n2 ?_ ?_ <;> intro h <;> first | subst (h : _ = true) | subst (h : _ = false) | (simp only [FX, LX, hsz, hdt, hdz, q0, h1] at h) | skip) | refine And.intro ?_ ?_ | refine nK ‹Imp _ _› ?_) | exact nl | fail
      all_goals first | rfl | (exfalso; omega) | skip
/-- A text that is read as tokens. -/
inductive LexTo : List UInt8 → List Tk → Prop
  | nil {l : List UInt8} : trimS l = [] → LexTo l []
  | cons {l : List UInt8} {k : Tk} {n : Nat} {ks : List Tk} : 1 ≤ (trimS l).length → (digF (trimS l)).length ≤ 18 → nextF (trimS l) = (k, n) → 1 ≤ n → n ≤ (trimS l).length → LexTo ((trimS l).drop n) ks → LexTo l (k :: ks)
end Go.PL

/- AK -/
namespace Go.PL
open Go Go.Proofs
set_option maxRecDepth 10000
set_option maxHeartbeats 4000000
set_option linter.unusedSimpArgs false
set_option linter.unusedVariables false
theorem joinB_zero {sep : ByteArray} : joinB [] sep = ⟨#[]⟩ := rfl
theorem joinB_first {ws : List ByteArray} {sep : ByteArray} (h : 0 < ws.length) : joinB (ws.take (0 + 1)) sep = joinB [] sep ++ ws.getD 0 ByteArray.empty := by
  match ws, h with
  | w :: r, _ =>
    apply ByteArray.ext
    rw [ByteArray.data_append]
    simp [joinB, Lib.join_one, Lib.join_nil]
theorem joinB_succ {ws : List ByteArray} {sep : ByteArray} {i : Nat} (h0 : 0 < i) (h : i < ws.length) : joinB (ws.take (i + 1)) sep = joinB (ws.take i) sep ++ sep ++ ws.getD i ByteArray.empty := by
  match ws, i, h0, h with
  | w :: r, k + 1, _, h =>
    have hk : k < r.length := by simpa using h
    have e : (r.map (·.data.toList))[k]? = some (r.getD k ByteArray.empty).data.toList := by
      rw [List.getElem?_map, List.getElem?_eq_getElem hk, List.getD, List.getElem?_eq_getElem hk]; rfl
    apply ByteArray.ext
    rw [ByteArray.data_append, ByteArray.data_append]
    simp only [joinB, List.take_succ_cons, List.map_cons, Lib.join_cons, List.map_take, List.getD_cons_succ]
    rw [Lib.joinTail_take_succ _ _ _ _ e]
    simp
/-- The bytes of words, each with one that comes between. -/
def szJ (ws : List ByteArray) (sep : ByteArray) : Nat := sep.size * ws.length + Lib.lens (ws.map (·.data.toList))
theorem lens_cons (x : List UInt8) (r : List (List UInt8)) : Lib.lens (x :: r) = x.length + Lib.lens r := by simp [Lib.lens]
theorem joinB_size (ws : List ByteArray) (sep : ByteArray) : (joinB ws sep).size ≤ szJ ws sep := by
  have key : (Lib.join (ws.map (·.data.toList)) sep.data.toList).length ≤ szJ ws sep := by
    match ws with
    | [] => simp [Lib.join_nil]
    | w :: r =>
      have e := Lib.joinTail_length sep.data.toList (r.map (·.data.toList))
      have e2 : sep.data.toList.length = sep.size := rfl
      have e3 : (r.map (·.data.toList)).length = r.length := List.length_map ..
      have e4 : sep.size * (w :: r).length = sep.size * r.length + sep.size := Nat.mul_succ _ _
      rw [List.map_cons, Lib.join_cons, List.length_append, e, e2, e3]
      unfold szJ
      rw [List.map_cons, lens_cons, e4]
      omega
  simpa [joinB, ByteArray.size] using key
theorem szJ_take (ws : List ByteArray) (sep : ByteArray) (k : Nat) : szJ (ws.take k) sep ≤ szJ ws sep := by
  unfold szJ
  have h1 := Lib.lens_take_le (ws.map (·.data.toList)) k
  have h2 : (ws.take k).length ≤ ws.length := by rw [List.length_take]; omega
  have h3 := Nat.mul_le_mul_left sep.size h2
  rw [List.map_take]
  omega
theorem szJ_le {ws : List ByteArray} {sep : ByteArray} {b : Nat} (h : ∀ w ∈ ws, w.size ≤ b) : szJ ws sep ≤ (sep.size + b) * ws.length := by
  have key : Lib.lens (ws.map (·.data.toList)) ≤ b * ws.length := by
    induction ws with
    | nil => simp [Lib.lens]
    | cons w r ih =>
      have h1 : w.data.toList.length ≤ b := h w (by simp)
      have h2 := ih fun x hx => h x (by simp [hx])
      rw [List.map_cons, lens_cons, List.length_cons, Nat.mul_succ]
      omega
  unfold szJ
  rw [Nat.add_mul]
  omega
theorem joinB_len (ws : List ByteArray) (sep : ByteArray) : (Lib.join (ws.map (·.data.toList)) sep.data.toList).length = (joinB ws sep).size := by simp [joinB, ByteArray.size]
instance (ws : List ByteArray) (s : ByteArray) : Con CC 18 [.d (.sl (ws.map .s)), .d (.s s)] (ws.length ≤ 1048576 ∧ szJ ws s ≤ 140737488355328) (.d (.s (joinB ws s))) :=
  ⟨fun h => Den.ext ⟨rfl, rfl, .inr (.inr (.inl ⟨rfl, ws, s, h.1, by rw [joinB_len]; exact Nat.le_trans (joinB_size ..) h.2, rfl, rfl⟩))⟩⟩
instance (ws : List ByteArray) (s : ByteArray) : Con CC 34 [.d (.sl (ws.map .s)), .d (.s s)] (ws.length ≤ 1048576 ∧ szJ ws s ≤ 140737488355328) (.d (.s (joinB ws s))) := by
  constructor; intro ⟨hl, hs⟩
  refine Den.pureI Tryd.func34 rfl 2 [.tmp 4] (by kernel_rfl) rfl rfl (by simp only [initE_nil, initE_cons, Nat.reduceAdd]; exact rfl) ?_
  repeat' first | (with_reducible first | refine nx' ?_ | refine n0 ?_ | refine rD ?_ | refine n1 ?_ | refine nilB_i fun b hb => ?_ | refine nP ?_ ?_ | refine nS fun K hK => ?_ | (refine n2 ?_ ?_ <;> intro h <;> first | subst (h : _ = true) | subst (h : _ = false) | skip) | refine And.intro ?_ ?_ | refine nK ‹Imp _ _› ?_) | exact nl | fail
  refine Wp.loopR (fun i : Nat => ⟨[(0, .d (.sl (ws.map .s))), (1, .d (.s s)), (5, .d (.s (joinB (ws.take i) s))), (6, .d (.i i))], []⟩) (fun i => ws.length - i) (fun i => i ≤ ws.length) 0 (Weak.low (by simp -implicitDefEqProofs (disch := omega) only [go_sem, sub_nil, sub_cons, LX, joinB_zero, List.take_zero]; try ((repeat' refine And.intro ?_ ?_) <;> first | rfl | trivial | (congr 3; omega) | (congr 1; omega)))) (by simp) ?_
  rintro i hi K hK
  by_cases hil : i < ws.length
  · by_cases h0 : 0 < i
    · have e := joinB_succ (sep := s) h0 hil
      have h1 := Nat.le_trans (joinB_size _ _) (szJ_take ws s (i + 1))
      rw [e, ByteArray.size_append, ByteArray.size_append] at h1
      repeat' first | (with_reducible first | refine nx' ?_ (by simp -implicitDefEqProofs (disch := omega) only [go_sem, ByteArray.size_append]; exact rfl) | refine n0 ?_ | refine rD ?_ | refine n1 ?_ | refine nilB_i fun b hb => ?_ | refine nP ?_ ?_ | refine nS fun K hK => ?_ | (refine n2 ?_ ?_ <;> intro h <;> first | subst (h : _ = true) | subst (h : _ = false) | (simp only [FX, LX, ByteArray.size_append] at h) | skip) | refine And.intro ?_ ?_ | refine nK ‹Imp _ _› ?_) | exact nl | fail
      exact ⟨i + 1, by omega, by omega, (Weak.low (by simp -implicitDefEqProofs (disch := omega) only [go_sem, sub_nil, sub_cons, LX, e]; try ((repeat' refine And.intro ?_ ?_) <;> first | rfl | trivial | (congr 3; omega) | (congr 1; omega))))⟩
    · obtain rfl : i = 0 := by omega
      have e := joinB_first (sep := s) hil
      have h1 := Nat.le_trans (joinB_size _ _) (szJ_take ws s (0 + 1))
      rw [e, ByteArray.size_append] at h1
      repeat' first | (with_reducible first | refine nx' ?_ (by simp -implicitDefEqProofs (disch := omega) only [go_sem, ByteArray.size_append]; exact rfl) | refine n0 ?_ | refine rD ?_ | refine n1 ?_ | refine nilB_i fun b hb => ?_ | refine nP ?_ ?_ | refine nS fun K hK => ?_ | (refine n2 ?_ ?_ <;> intro h <;> first | subst (h : _ = true) | subst (h : _ = false) | (simp only [FX, LX, ByteArray.size_append] at h) | skip) | refine And.intro ?_ ?_ | refine nK ‹Imp _ _› ?_) | exact nl | fail
      exact ⟨0 + 1, by omega, by omega, (Weak.low (by simp -implicitDefEqProofs (disch := omega) only [go_sem, sub_nil, sub_cons, LX, e]; try ((repeat' refine And.intro ?_ ?_) <;> first | rfl | trivial | (congr 3; omega) | (congr 1; omega))))⟩
  · repeat' first | (with_reducible first | refine nx' ?_ | refine n0 ?_ | refine rD ?_ | refine n1 ?_ | refine nilB_i fun b hb => ?_ | refine nP ?_ ?_ | refine nS fun K hK => ?_ | (refine n2 ?_ ?_ <;> intro h <;> first | subst (h : _ = true) | subst (h : _ = false) | skip) | refine And.intro ?_ ?_ | refine nK ‹Imp _ _› ?_) | exact nl | fail
    obtain rfl : i = ws.length := by omega
    rw [List.take_length]
def firstI : List Int → Int
  | [] => 0
  | c :: r => if c = 0 then firstI r else c
theorem firstI_at : ∀ (l : List Int) (i : Nat), i < l.length → (∀ t, t < i → l.getD t 0 = 0) → l.getD i 0 ≠ 0 → firstI l = l.getD i 0
  | [], i, h, _, _ => by simp at h
  | c :: r, 0, _, _, h => by simp only [firstI]; rw [if_neg (by simpa using h)]; rfl
  | c :: r, i + 1, h, hn, hp => by
    have h0 : c = 0 := by simpa using hn 0 (by omega)
    simp only [firstI]
    rw [if_pos h0, firstI_at r i (by simpa using h) (fun t ht => by simpa using hn (t + 1) (by omega)) (by simpa using hp)]; simp
theorem firstI_none : ∀ (l : List Int), (∀ t, t < l.length → l.getD t 0 = 0) → firstI l = 0
  | [], _ => rfl
  | c :: r, h => by
    have h0 : c = 0 := by simpa using h 0 (by simp)
    simp only [firstI]
    rw [if_pos h0, firstI_none r fun t ht => by simpa using h (t + 1) (by simpa using ht)]
instance (l : List Int) : Con CC 12 [.d (.sl (l.map .i))] (l.length ≤ 1048576) (.d (.i (firstI l))) := by
  constructor; intro hl
  refine Den.pureI Tryd.func12 rfl 1 [.tmp 2] (by kernel_rfl) rfl rfl (by simp only [initE_nil, initE_cons, Nat.reduceAdd]; exact rfl) ?_
  repeat' first | (with_reducible first | refine nx' ?_ | refine n0 ?_ | refine rD ?_ | refine n1 ?_ | refine nilB_i fun b hb => ?_ | refine nP ?_ ?_ | refine nS fun K hK => ?_ | (refine n2 ?_ ?_ <;> intro h <;> first | subst (h : _ = true) | subst (h : _ = false) | skip) | refine And.intro ?_ ?_ | refine nK ‹Imp _ _› ?_) | exact nl | fail
  refine Wp.loopR (fun i : Nat => ⟨[(5, .d (.sl (l.map .i))), (6, .d (.i l.length)), (7, .d (.i i))], []⟩) (fun i => l.length - i) (fun i => i ≤ l.length ∧ ∀ t, t < i → l.getD t 0 = 0) 0 Weak.lo ⟨by simp, by intro t ht; omega⟩ ?_
  rintro i ⟨hi, hd⟩ K hK
  repeat' first | (with_reducible first | refine nx' ?_ | refine n0 ?_ | refine rD ?_ | refine n1 ?_ | refine nilB_i fun b hb => ?_ | refine nP ?_ ?_ | refine nS fun K hK => ?_ | (refine n2 ?_ ?_ <;> intro h <;> first | subst (h : _ = true) | subst (h : _ = false) | skip) | refine And.intro ?_ ?_ | refine nK ‹Imp _ _› ?_) | exact nl | fail
  · rw [firstI_at l i (by omega) hd h]
  · exact ⟨i + 1, by omega, ⟨by omega, fun t ht => by rcases (show t < i ∨ t = i by omega) with e | e; exact hd t e; rw [e]; exact h⟩, Weak.lo⟩
  · rw [firstI_none l fun t ht => hd t (by omega)]
def longI (most : Int) (l : List Int) : Int := if l.any fun n => decide (most < n) then 2 else 0
theorem longI_at {most : Int} {l : List Int} {i : Nat} (h : i < l.length) (hp : most < l.getD i 0) : longI most l = 2 := by
  unfold longI; rw [if_pos]; rw [List.any_eq_true]; exact ⟨_, getD_mem 0 h, by simpa using hp⟩
theorem longI_none {most : Int} {l : List Int} (h : ∀ t, t < l.length → l.getD t 0 ≤ most) : longI most l = 0 := by
  unfold longI; rw [if_neg]; rw [List.any_eq_true]; rintro ⟨x, hx, hp⟩
  obtain ⟨i, hi, rfl⟩ := List.getElem_of_mem hx
  have := h i hi
  simp only [List.getD, List.getElem?_eq_getElem hi, Option.getD_some] at this
  simp only [decide_eq_true_eq] at hp
  omega
instance (most : Int) (l : List Int) : Con CC 13 [.d (.i most), .d (.sl (l.map .i))] (l.length ≤ 1048576) (.d (.i (longI most l))) := by
  constructor; intro hl
  refine Den.pureI Tryd.func13 rfl 2 [.tmp 4] (by kernel_rfl) rfl rfl (by simp only [initE_nil, initE_cons, Nat.reduceAdd]; exact rfl) ?_
  repeat' first | (with_reducible first | refine nx' ?_ | refine n0 ?_ | refine rD ?_ | refine n1 ?_ | refine nilB_i fun b hb => ?_ | refine nP ?_ ?_ | refine nS fun K hK => ?_ | (refine n2 ?_ ?_ <;> intro h <;> first | subst (h : _ = true) | subst (h : _ = false) | skip) | refine And.intro ?_ ?_ | refine nK ‹Imp _ _› ?_) | exact nl | fail
  refine Wp.loopR (fun i : Nat => ⟨[(0, .d (.i most)), (7, .d (.sl (l.map .i))), (8, .d (.i l.length)), (9, .d (.i i))], []⟩) (fun i => l.length - i) (fun i => i ≤ l.length ∧ ∀ t, t < i → l.getD t 0 ≤ most) 0 Weak.lo ⟨by simp, by intro t ht; omega⟩ ?_
  rintro i ⟨hi, hd⟩ K hK
  repeat' first | (with_reducible first | refine nx' ?_ | refine n0 ?_ | refine rD ?_ | refine n1 ?_ | refine nilB_i fun b hb => ?_ | refine nP ?_ ?_ | refine nS fun K hK => ?_ | (refine n2 ?_ ?_ <;> intro h <;> first | subst (h : _ = true) | subst (h : _ = false) | skip) | refine And.intro ?_ ?_ | refine nK ‹Imp _ _› ?_) | exact nl | fail
  · rw [longI_at (by omega) h]
  · exact ⟨i + 1, by omega, ⟨by omega, fun t ht => by rcases (show t < i ∨ t = i by omega) with e | e; exact hd t e; rw [e]; exact h⟩, Weak.lo⟩
  · rw [longI_none fun t ht => hd t (by omega)]
instance (b : Bool) (c : Int) : Con CC 14 [.d (.b b), .d (.i c)] True (.d (.i (if b then 0 else c))) := by
  constructor; intro pre
  refine Den.pureI Tryd.func14 rfl 2 [.tmp 4] (by kernel_rfl) rfl rfl (by simp only [initE_nil, initE_cons, Nat.reduceAdd]; exact rfl) ?_
  repeat' first | (with_reducible first | refine nx' ?_ | refine n0 ?_ | refine rD ?_ | refine n1 ?_ | refine nilB_i fun b hb => ?_ | refine nP ?_ ?_ | refine nS fun K hK => ?_ | (refine n2 ?_ ?_ <;> intro h <;> first | subst (h : _ = true) | subst (h : _ = false) | skip) | refine And.intro ?_ ?_ | refine nK ‹Imp _ _› ?_) | exact nl | fail
theorem indexFunc_T (g : FuncId) (cap : List D) (p : Tk → Bool) (a : List Tk) (ha : a.length < 4611686018427387904) (hp : ∀ x ∈ a, CC g (.d (encTk x) :: dV cap) [] (.d (.b (p x))) []) :
    CC 26 [.d (.sl (a.map encTk)), .d (.fn (.func g) [] cap)] [] (.d (.i (idxOf p a))) [] := by
  refine Den.pureI Tryd.func26 rfl 2 [.tmp 4] (by kernel_rfl) rfl rfl (by simp only [initE_nil, initE_cons, Nat.reduceAdd]; exact rfl) ?_
  repeat' first | (with_reducible first | refine nx' ?_ | refine n0 ?_ | refine rD ?_ | refine n1 ?_ | refine nilB_i fun b hb => ?_ | refine nP ?_ ?_ | refine nS fun K hK => ?_ | (refine n2 ?_ ?_ <;> intro h <;> first | subst (h : _ = true) | subst (h : _ = false) | skip) | refine And.intro ?_ ?_ | refine nK ‹Imp _ _› ?_) | exact nl | fail
  refine Wp.loopR (fun i : Nat => ⟨[(0, .d (.sl (a.map encTk))), (1, .d (.fn (.func g) [] cap)), (7, .d (.i a.length)), (8, .d (.i i))], []⟩) (fun i => a.length - i) (fun i => i ≤ a.length ∧ ∀ t, t < i → p (a.getD t tk0) = false) 0 Weak.lo ⟨by simp, by intro t ht; omega⟩ ?_
  rintro i ⟨hi, hd⟩ K hK
  by_cases hil : i < a.length
  · have hpi := hp _ (getD_mem tk0 hil)
    simp only [encTk_eq] at hpi
    repeat' first | (with_reducible first | refine nx' ?_ | refine n0 ?_ | refine rD ?_ | refine n1 ?_ | refine nilB_i fun b hb => ?_ | refine nPc (hpi) ?_ | refine nP ?_ ?_ | refine nS fun K hK => ?_ | (refine n2 ?_ ?_ <;> intro h <;> first | subst (h : _ = true) | subst (h : _ = false) | skip) | refine And.intro ?_ ?_ | refine nK ‹Imp _ _› ?_) | exact nl | fail
    · rw [idxOf_at _ a i (by omega) hd h]
    · exact ⟨i + 1, by omega, ⟨by omega, fun t ht => by rcases (show t < i ∨ t = i by omega) with e | e; exact hd t e; rw [e]; exact h⟩, Weak.lo⟩
  · repeat' first | (with_reducible first | refine nx' ?_ | refine n0 ?_ | refine rD ?_ | refine n1 ?_ | refine nilB_i fun b hb => ?_ | refine nP ?_ ?_ | refine nS fun K hK => ?_ | (refine n2 ?_ ?_ <;> intro h <;> first | subst (h : _ = true) | subst (h : _ = false) | skip) | refine And.intro ?_ ?_ | refine nK ‹Imp _ _› ?_) | exact nl | fail
    rw [idxOf_none _ a fun t ht => hd t (by omega)]
theorem containsFunc_T (g : FuncId) (cap : List D) (p : Tk → Bool) (a : List Tk) (ha : a.length < 4611686018427387904) (hp : ∀ x ∈ a, CC g (.d (encTk x) :: dV cap) [] (.d (.b (p x))) []) :
    CC 15 [.d (.sl (a.map encTk)), .d (.fn (.func g) [] cap)] [] (.d (.b (a.any p))) [] := by
  refine Den.pureI Tryd.func15 rfl 2 [.tmp 4] (by kernel_rfl) rfl rfl (by simp only [initE_nil, initE_cons, Nat.reduceAdd]; exact rfl) ?_
  repeat' first | (with_reducible first | refine nx' ?_ | refine n0 ?_ | refine rD ?_ | refine n1 ?_ | refine nilB_i fun b hb => ?_ | refine nPc (indexFunc_T g cap p a ha hp) ?_ | refine nP ?_ ?_ | refine nS fun K hK => ?_ | (refine n2 ?_ ?_ <;> intro h <;> first | subst (h : _ = true) | subst (h : _ = false) | skip) | refine And.intro ?_ ?_ | refine nK ‹Imp _ _› ?_) | exact nl | fail
  rw [idxOf_any]
end Go.PL
