/- A plain machine, sound for the given model, and contracts of functions over it, part 34: AKR. Nothing is assumed. -/
import Derived.Test.YtifdnkokfeikfaaDoorAB
import Derived.Lib.ItoaMem
import Derived.Laws.Strings
import Derived.Lib.Join
set_option linter.unusedSimpArgs false
set_option linter.unusedVariables false
set_option linter.unusedSectionVars false
/- AKR -/
namespace Go.PL
open Go Go.Proofs
set_option maxRecDepth 10000
set_option linter.unusedSimpArgs false
set_option linter.unusedVariables false
instance (n : Int) : Con CC 46 [.d (.i n)] (-9223372036854775808 ≤ n ∧ n ≤ 9223372036854775807) (.d (.s (itoaB n))) :=
  ⟨fun h => Den.ext ⟨rfl, rfl, .inl ⟨rfl, n, h.1, h.2, rfl, rfl⟩⟩⟩
theorem wrap8 {n : Int} (h1 : 0 ≤ n) (h2 : n < 256) : IntKind.wrap .u8 n = n := by
  have e1 : (2 ^ IntKind.u8.bits : Int) = 256 := by decide
  have e3 : IntKind.u8.signed = false := by decide
  simp only [IntKind.wrap, e1, e3, Bool.false_and, Bool.false_eq_true, if_false]
  omega
theorem digB_small {n : Nat} (h : n < 10) : digB n = strB [IntKind.u8.wrap (48 + (n : Int))] := by
  unfold digB strB
  rw [Lib.decDigits, dif_pos h, wrap8 (by omega) (by omega), show (48 + (n : Int)) = ((48 + n : Nat) : Int) by omega]
  rfl
theorem digB_big {n : Nat} (h : 10 ≤ n) : digB n = digB (n / 10) ++ strB [IntKind.u8.wrap (48 + ((n % 10 : Nat) : Int))] := by
  unfold digB strB
  rw [Lib.decDigits, dif_neg (by omega), wrap8 (by omega) (by omega), show (48 + ((n % 10 : Nat) : Int)) = ((48 + n % 10 : Nat) : Int) by omega]
  apply ByteArray.ext
  rw [ByteArray.data_append]
  show (Lib.decDigits (n / 10) ++ [UInt8.ofNat (48 + n % 10)]).toArray = (Lib.decDigits (n / 10)).toArray ++ [UInt8.ofNat (48 + n % 10)].toArray
  simp only [List.append_toArray]
theorem strB_size (l : List Int) : (strB l).size = l.length := by
  show ((l.map fun n => UInt8.ofNat n.toNat).toArray).size = _
  simp
theorem digB_size (n : Nat) : (digB n).size ≤ n + 1 := by
  show (Lib.decDigits n).toArray.size ≤ _
  induction n using Nat.strongRecOn with
  | _ n ih =>
    rw [Lib.decDigits]
    split
    · simp
    · have := ih (n / 10) (by omega)
      simp only [List.size_toArray, List.length_append, List.length_cons, List.length_nil] at this ⊢
      omega
theorem digits_c (n : Nat) : n ≤ 9223372036854775807 → CC 42 [.d (.i n)] [] (.d (.s (digB n))) [] := by
  induction n using Nat.strongRecOn with
  | _ n ih =>
    intro hn
    have hs := digB_size (n / 10)
    have e1 : (n : Int) / 10 = ((n / 10 : Nat) : Int) := by omega
    have e2 : (n : Int) % 10 = ((n % 10 : Nat) : Int) := by omega
    refine Den.pureI Tryd.func42 rfl 1 [.tmp 2] (by kernel_rfl) rfl rfl (by simp only [initE_nil, initE_cons, Nat.reduceAdd]; exact rfl) ?_
    repeat' (first | (with_reducible show _ ∧ _; first | (with_reducible refine And.intro (by first | omega | exact Or.inr trivial | exact trivial | (simp only [LX]; omega)) ?_) | (with_reducible refine And.intro ?_ ?_)) | (with_reducible show Wp _ _ _ _ _ _; first | ((with_reducible first | refine Wp.regionR ?_ | refine Wp.skip ?_ | refine Wp.ret ?_ | refine Wp.exit ?_ | refine Wp.drawR (by decide +kernel) ?_ | refine Wp.drawSR [7, 8, 9, 10] [false, false, false, false, false, false, false, true, true, true, true] (.op 7 [0,1,2] (.op 8 [0,1,2] (.op 9 [] (.op 10 [] .done)))) (by decide +kernel) ?_ | refine Wp.label ?_); (try simp -implicitDefEqProofs (disch := omega) only [go_sem, e1, e2])) | (with_reducible first | refine wS fun K hK => ?_ | refine wB fun K hK => ?_ | refine wE ?_)) | (with_reducible show bcase _ _ _; first | (with_reducible first | refine bcaseT ?_ | refine bcaseF ?_) | ((with_reducible refine bcase_s ?_ ?_) <;> intro h <;> first | subst h | (try simp only [FX, LX, e1, e2] at h))) | (with_reducible show op1R _ _ _ _ _ _ _; first | ((with_reducible first | refine wC ?_ | refine wC0 ?_); (first | with_reducible refine pcD_den (ih (n / 10) (by omega) (by omega)) rfl ?_ | with_reducible refine pcDQ_den (ih (n / 10) (by omega) (by omega)) rfl (by first | exact .inl rfl | exact .inr rfl) ?_ | with_reducible refine pcD_con ?_ rfl ?_ | with_reducible refine pcDQ_con ?_ rfl (by first | exact .inl rfl | exact .inr rfl) ?_) <;> (try simp -implicitDefEqProofs (disch := omega) only [go_sem, e1, e2])) | ((with_reducible first | refine wCn ?_ | refine wC0n ?_); (try simp only [e1, e2]); (first | with_reducible refine pcD_den (ih (n / 10) (by omega) (by omega)) rfl ?_ | with_reducible refine pcDQ_den (ih (n / 10) (by omega) (by omega)) rfl (by first | exact .inl rfl | exact .inr rfl) ?_ | with_reducible refine pcD_con ?_ rfl ?_ | with_reducible refine pcDQ_con ?_ rfl (by first | exact .inl rfl | exact .inr rfl) ?_) <;> (try simp -implicitDefEqProofs (disch := omega) only [go_sem, e1, e2])) | ((with_reducible first | refine r1_append ?_); (try simp -implicitDefEqProofs (disch := omega) only [go_sem, e1, e2]))) | (with_reducible show opsR _ _ _ _ _ _; first | (with_reducible first | refine wG ?_)) | (with_reducible show qA _ _ _ _ _ _; first | (with_reducible first | refine wGqA ?_)) | (with_reducible show lateR _ _ _ _ _ _; first | (with_reducible first | refine wGl ?_)) | (with_reducible show trR _ _ _ _ _ _; first | (with_reducible first | refine wGt2 ?_)) | (with_reducible show gcase _ _ _ _; first | ((with_reducible first | refine gcaseTT ?_ | refine gcaseTF ?_ | refine gcaseFT ?_ | refine gcaseFF ?_ | refine gcaseU ?_) <;> (try simp -implicitDefEqProofs (disch := omega) only [go_sem, e1, e2])) | ((with_reducible first | refine wGt ?_ ?_ | refine wGf ?_ ?_) <;> intro h <;> (first | subst h | (simp only [h]; (try simp only [FX, LX, e1, e2] at h))) <;> (try simp -implicitDefEqProofs (disch := omega) only [go_sem, e1, e2]))) | (with_reducible show qR _ _ _ _ _ _ _; first | (with_reducible first | refine wGq ?_)) | (with_reducible show q1R _ _ _ _ _ _ _; first | ((with_reducible first | refine wCq ?_); (first | with_reducible refine pcD_den (ih (n / 10) (by omega) (by omega)) rfl ?_ | with_reducible refine pcDQ_den (ih (n / 10) (by omega) (by omega)) rfl (by first | exact .inl rfl | exact .inr rfl) ?_ | with_reducible refine pcD_con ?_ rfl ?_ | with_reducible refine pcDQ_con ?_ rfl (by first | exact .inl rfl | exact .inr rfl) ?_) <;> (try simp -implicitDefEqProofs (disch := omega) only [go_sem, e1, e2])) | ((with_reducible first | refine wCqn ?_); (try simp only [e1, e2]); (first | with_reducible refine pcD_den (ih (n / 10) (by omega) (by omega)) rfl ?_ | with_reducible refine pcDQ_den (ih (n / 10) (by omega) (by omega)) rfl (by first | exact .inl rfl | exact .inr rfl) ?_ | with_reducible refine pcD_con ?_ rfl ?_ | with_reducible refine pcDQ_con ?_ rfl (by first | exact .inl rfl | exact .inr rfl) ?_) <;> (try simp -implicitDefEqProofs (disch := omega) only [go_sem, e1, e2]))) | (with_reducible show nilB _ _ _; first | ((with_reducible first | refine nilB_pos (by omega) ?_ | refine nilB_i fun b hb => ?_); (try simp -implicitDefEqProofs (disch := omega) only [go_sem, e1, e2]))) | (with_reducible refine Imp.out ‹Imp _ _› ?_; (try simp only [TX, Nat.reduceBEq])) | assumption | omega | exact trivial | (simp only [LX]; omega))
    · rw [digB_small (by omega)]
    · rw [strB_size]; simp only [List.length_cons, List.length_nil]; omega
    · rw [← digB_big (by omega)]
instance (n : Nat) : Con CC 42 [.d (.i n)] (n ≤ 9223372036854775807) (.d (.s (digB n))) := ⟨digits_c n⟩
theorem itoaB_nat (m : Nat) : itoaB (m : Int) = digB m := by unfold itoaB digB; rw [Lib.itoa_nonneg]
theorem joinB_zero {sep : ByteArray} : joinB [] sep = ⟨#[]⟩ := rfl
theorem joinB_first {ws : List ByteArray} {sep : ByteArray} (h : 0 < ws.length) : joinB (ws.take (0 + 1)) sep = joinB [] sep ++ ws.getD 0 ByteArray.empty := by
  match ws, h with
  | w :: r, _ =>
    apply ByteArray.ext
    rw [ByteArray.data_append]
    simp [joinB, Lib.join_one, Lib.join_nil]
theorem joinB_succ {ws : List ByteArray} {sep : ByteArray} {i : Nat} (h0 : 0 < i) (h : i < ws.length) : joinB (ws.take (i + 1)) sep = joinB (ws.take i) sep ++ sep ++ ws.getD i ByteArray.empty := by
  match ws, i, h0, h with
  | w :: r, k + 1, _, h =>
    have hk : k < r.length := by simpa using h
    have e : (r.map (·.data.toList))[k]? = some (r.getD k ByteArray.empty).data.toList := by
      rw [List.getElem?_map, List.getElem?_eq_getElem hk, List.getD, List.getElem?_eq_getElem hk]; rfl
    apply ByteArray.ext
    rw [ByteArray.data_append, ByteArray.data_append]
    simp only [joinB, List.take_succ_cons, List.map_cons, Lib.join_cons, List.map_take, List.getD_cons_succ]
    rw [Lib.joinTail_take_succ _ _ _ _ e]
    simp
/-- The bytes of words, each with one that comes between. -/
def szJ (ws : List ByteArray) (sep : ByteArray) : Nat := sep.size * ws.length + Lib.lens (ws.map (·.data.toList))
theorem lens_cons (x : List UInt8) (r : List (List UInt8)) : Lib.lens (x :: r) = x.length + Lib.lens r := by simp [Lib.lens]
theorem joinB_size (ws : List ByteArray) (sep : ByteArray) : (joinB ws sep).size ≤ szJ ws sep := by
  have key : (Lib.join (ws.map (·.data.toList)) sep.data.toList).length ≤ szJ ws sep := by
    match ws with
    | [] => simp [Lib.join_nil]
    | w :: r =>
      have e := Lib.joinTail_length sep.data.toList (r.map (·.data.toList))
      have e2 : sep.data.toList.length = sep.size := rfl
      have e3 : (r.map (·.data.toList)).length = r.length := List.length_map ..
      have e4 : sep.size * (w :: r).length = sep.size * r.length + sep.size := Nat.mul_succ _ _
      rw [List.map_cons, Lib.join_cons, List.length_append, e, e2, e3]
      unfold szJ
      rw [List.map_cons, lens_cons, e4]
      omega
  simpa [joinB, ByteArray.size] using key
theorem szJ_take (ws : List ByteArray) (sep : ByteArray) (k : Nat) : szJ (ws.take k) sep ≤ szJ ws sep := by
  unfold szJ
  have h1 := Lib.lens_take_le (ws.map (·.data.toList)) k
  have h2 : (ws.take k).length ≤ ws.length := by rw [List.length_take]; omega
  have h3 := Nat.mul_le_mul_left sep.size h2
  rw [List.map_take]
  omega
theorem szJ_le {ws : List ByteArray} {sep : ByteArray} {b : Nat} (h : ∀ w ∈ ws, w.size ≤ b) : szJ ws sep ≤ (sep.size + b) * ws.length := by
  have key : Lib.lens (ws.map (·.data.toList)) ≤ b * ws.length := by
    induction ws with
    | nil => simp [Lib.lens]
    | cons w r ih =>
      have h1 : w.data.toList.length ≤ b := h w (by simp)
      have h2 := ih fun x hx => h x (by simp [hx])
      rw [List.map_cons, lens_cons, List.length_cons, Nat.mul_succ]
      omega
  unfold szJ
  rw [Nat.add_mul]
  omega
theorem joinB_len (ws : List ByteArray) (sep : ByteArray) : (Lib.join (ws.map (·.data.toList)) sep.data.toList).length = (joinB ws sep).size := by simp [joinB, ByteArray.size]
instance (ws : List ByteArray) (s : ByteArray) : Con CC 60 [.d (.sl (ws.map .s)), .d (.s s)] (ws.length ≤ 1048576 ∧ szJ ws s ≤ 140737488355328) (.d (.s (joinB ws s))) :=
  ⟨fun h => Den.ext ⟨rfl, rfl, .inr (.inr ⟨rfl, ws, s, h.1, by rw [joinB_len]; exact Nat.le_trans (joinB_size ..) h.2, rfl, rfl⟩)⟩⟩
instance (ws : List ByteArray) (s : ByteArray) : Con CC 58 [.d (.sl (ws.map .s)), .d (.s s)] (ws.length ≤ 1048576 ∧ szJ ws s ≤ 140737488355328) (.d (.s (joinB ws s))) := by
  constructor; intro ⟨hl, hs⟩
  refine Den.pureI Tryd.func58 rfl 2 [.tmp 4] (by kernel_rfl) rfl rfl (by simp only [initE_nil, initE_cons, Nat.reduceAdd]; exact rfl) ?_
  repeat' (first | (with_reducible show _ ∧ _; first | (with_reducible refine And.intro (by first | omega | exact Or.inr trivial | exact trivial | (simp only [LX]; omega)) ?_) | (with_reducible refine And.intro ?_ ?_)) | (with_reducible show Wp _ _ _ _ _ _; first | ((with_reducible first | refine Wp.regionR ?_ | refine Wp.skip ?_ | refine Wp.ret ?_ | refine Wp.exit ?_ | refine Wp.drawR (by kernel_rfl) ?_ | refine Wp.label ?_); (try simp -implicitDefEqProofs (disch := omega) only [go_sem])) | (with_reducible first | refine wS fun K hK => ?_ | refine wB fun K hK => ?_ | refine wE ?_)) | (with_reducible show bcase _ _ _; first | (with_reducible first | refine bcaseT ?_ | refine bcaseF ?_) | ((with_reducible refine bcase_s ?_ ?_) <;> intro h <;> first | subst h | (try simp only [FX, LX] at h))) | (with_reducible show op1R _ _ _ _ _ _ _; first | ((with_reducible first | refine wC ?_ | refine wC0 ?_); (first | with_reducible refine pcD_con ?_ rfl ?_ | with_reducible refine pcDQ_con ?_ rfl (by first | exact .inl rfl | exact .inr rfl) ?_) <;> (try simp -implicitDefEqProofs (disch := omega) only [go_sem])) | ((with_reducible first | refine wCn ?_ | refine wC0n ?_); (first | with_reducible refine pcD_con ?_ rfl ?_ | with_reducible refine pcDQ_con ?_ rfl (by first | exact .inl rfl | exact .inr rfl) ?_) <;> (try simp -implicitDefEqProofs (disch := omega) only [go_sem])) | ((with_reducible first | refine r1_append ?_); (try simp -implicitDefEqProofs (disch := omega) only [go_sem]))) | (with_reducible show opsR _ _ _ _ _ _; first | (with_reducible first | refine wG ?_)) | (with_reducible show gcase _ _ _ _; first | ((with_reducible first | refine gcaseTT ?_ | refine gcaseTF ?_ | refine gcaseFT ?_ | refine gcaseFF ?_ | refine gcaseU ?_) <;> (try simp -implicitDefEqProofs (disch := omega) only [go_sem])) | ((with_reducible first | refine wGt ?_ ?_ | refine wGf ?_ ?_) <;> intro h <;> (first | subst h | (simp only [h]; (try simp only [FX, LX] at h))) <;> (try simp -implicitDefEqProofs (disch := omega) only [go_sem]))) | (with_reducible show qR _ _ _ _ _ _ _; first | (with_reducible first | refine wGq ?_)) | (with_reducible show q1R _ _ _ _ _ _ _; first | ((with_reducible first | refine wCq ?_); (first | with_reducible refine pcD_con ?_ rfl ?_ | with_reducible refine pcDQ_con ?_ rfl (by first | exact .inl rfl | exact .inr rfl) ?_) <;> (try simp -implicitDefEqProofs (disch := omega) only [go_sem])) | ((with_reducible first | refine wCqn ?_); (first | with_reducible refine pcD_con ?_ rfl ?_ | with_reducible refine pcDQ_con ?_ rfl (by first | exact .inl rfl | exact .inr rfl) ?_) <;> (try simp -implicitDefEqProofs (disch := omega) only [go_sem]))) | (with_reducible show nilB _ _ _; first | ((with_reducible first | refine nilB_pos (by omega) ?_ | refine nilB_i fun b hb => ?_); (try simp -implicitDefEqProofs (disch := omega) only [go_sem]))) | (with_reducible refine Imp.out ‹Imp _ _› ?_; (try simp only [TX, Nat.reduceBEq])) | assumption | omega | exact trivial | (simp only [LX]; omega))
  refine Wp.loopR (fun i : Nat => ⟨[(0, .d (.sl (ws.map .s))), (1, .d (.s s)), (5, .d (.s (joinB (ws.take i) s))), (6, .d (.i i))], []⟩) (fun i => ws.length - i) (fun i => i ≤ ws.length) 0 (Weak.low (by simp -implicitDefEqProofs (disch := omega) only [go_sem, sub_nil, sub_cons, LX, joinB_zero, List.take_zero]; try ((repeat' refine And.intro ?_ ?_) <;> first | rfl | trivial | (congr 3; omega) | (congr 1; omega)))) (by simp) ?_
  rintro i hi K hK
  by_cases hil : i < ws.length
  · by_cases h0 : 0 < i
    · have e := joinB_succ (sep := s) h0 hil
      have h1 := Nat.le_trans (joinB_size _ _) (szJ_take ws s (i + 1))
      rw [e, ByteArray.size_append, ByteArray.size_append] at h1
      repeat' (first | (with_reducible show _ ∧ _; first | (with_reducible refine And.intro (by first | omega | exact Or.inr trivial | exact trivial | (simp only [LX]; omega)) ?_) | (with_reducible refine And.intro ?_ ?_)) | (with_reducible show Wp _ _ _ _ _ _; first | ((with_reducible first | refine Wp.regionR ?_ | refine Wp.skip ?_ | refine Wp.ret ?_ | refine Wp.exit ?_ | refine Wp.drawR (by kernel_rfl) ?_ | refine Wp.label ?_); (try simp -implicitDefEqProofs (disch := omega) only [go_sem, ByteArray.size_append])) | (with_reducible first | refine wS fun K hK => ?_ | refine wB fun K hK => ?_ | refine wE ?_)) | (with_reducible show bcase _ _ _; first | (with_reducible first | refine bcaseT ?_ | refine bcaseF ?_) | ((with_reducible refine bcase_s ?_ ?_) <;> intro h <;> first | subst h | (try simp only [FX, LX, ByteArray.size_append] at h))) | (with_reducible show op1R _ _ _ _ _ _ _; first | ((with_reducible first | refine wC ?_ | refine wC0 ?_); (first | with_reducible refine pcD_con ?_ rfl ?_ | with_reducible refine pcDQ_con ?_ rfl (by first | exact .inl rfl | exact .inr rfl) ?_) <;> (try simp -implicitDefEqProofs (disch := omega) only [go_sem, ByteArray.size_append])) | ((with_reducible first | refine wCn ?_ | refine wC0n ?_); (try simp only [ByteArray.size_append]); (first | with_reducible refine pcD_con ?_ rfl ?_ | with_reducible refine pcDQ_con ?_ rfl (by first | exact .inl rfl | exact .inr rfl) ?_) <;> (try simp -implicitDefEqProofs (disch := omega) only [go_sem, ByteArray.size_append])) | ((with_reducible first | refine r1_append ?_); (try simp -implicitDefEqProofs (disch := omega) only [go_sem, ByteArray.size_append]))) | (with_reducible show opsR _ _ _ _ _ _; first | (with_reducible first | refine wG ?_)) | (with_reducible show gcase _ _ _ _; first | ((with_reducible first | refine gcaseTT ?_ | refine gcaseTF ?_ | refine gcaseFT ?_ | refine gcaseFF ?_ | refine gcaseU ?_) <;> (try simp -implicitDefEqProofs (disch := omega) only [go_sem, ByteArray.size_append])) | ((with_reducible first | refine wGt ?_ ?_ | refine wGf ?_ ?_) <;> intro h <;> (first | subst h | (simp only [h]; (try simp only [FX, LX, ByteArray.size_append] at h))) <;> (try simp -implicitDefEqProofs (disch := omega) only [go_sem, ByteArray.size_append]))) | (with_reducible show qR _ _ _ _ _ _ _; first | (with_reducible first | refine wGq ?_)) | (with_reducible show q1R _ _ _ _ _ _ _; first | ((with_reducible first | refine wCq ?_); (first | with_reducible refine pcD_con ?_ rfl ?_ | with_reducible refine pcDQ_con ?_ rfl (by first | exact .inl rfl | exact .inr rfl) ?_) <;> (try simp -implicitDefEqProofs (disch := omega) only [go_sem, ByteArray.size_append])) | ((with_reducible first | refine wCqn ?_); (try simp only [ByteArray.size_append]); (first | with_reducible refine pcD_con ?_ rfl ?_ | with_reducible refine pcDQ_con ?_ rfl (by first | exact .inl rfl | exact .inr rfl) ?_) <;> (try simp -implicitDefEqProofs (disch := omega) only [go_sem, ByteArray.size_append]))) | (with_reducible show nilB _ _ _; first | ((with_reducible first | refine nilB_pos (by omega) ?_ | refine nilB_i fun b hb => ?_); (try simp -implicitDefEqProofs (disch := omega) only [go_sem, ByteArray.size_append]))) | (with_reducible refine Imp.out ‹Imp _ _› ?_; (try simp only [TX, Nat.reduceBEq])) | assumption | omega | exact trivial | (simp only [LX]; omega))
      exact ⟨i + 1, by omega, by omega, (Weak.low (by simp -implicitDefEqProofs (disch := omega) only [go_sem, sub_nil, sub_cons, LX, e]; try ((repeat' refine And.intro ?_ ?_) <;> first | rfl | trivial | (congr 3; omega) | (congr 1; omega))))⟩
    · obtain rfl : i = 0 := by omega
      have e := joinB_first (sep := s) hil
      have h1 := Nat.le_trans (joinB_size _ _) (szJ_take ws s (0 + 1))
      rw [e, ByteArray.size_append] at h1
      repeat' (first | (with_reducible show _ ∧ _; first | (with_reducible refine And.intro (by first | omega | exact Or.inr trivial | exact trivial | (simp only [LX]; omega)) ?_) | (with_reducible refine And.intro ?_ ?_)) | (with_reducible show Wp _ _ _ _ _ _; first | ((with_reducible first | refine Wp.regionR ?_ | refine Wp.skip ?_ | refine Wp.ret ?_ | refine Wp.exit ?_ | refine Wp.drawR (by kernel_rfl) ?_ | refine Wp.label ?_); (try simp -implicitDefEqProofs (disch := omega) only [go_sem, ByteArray.size_append])) | (with_reducible first | refine wS fun K hK => ?_ | refine wB fun K hK => ?_ | refine wE ?_)) | (with_reducible show bcase _ _ _; first | (with_reducible first | refine bcaseT ?_ | refine bcaseF ?_) | ((with_reducible refine bcase_s ?_ ?_) <;> intro h <;> first | subst h | (try simp only [FX, LX, ByteArray.size_append] at h))) | (with_reducible show op1R _ _ _ _ _ _ _; first | ((with_reducible first | refine wC ?_ | refine wC0 ?_); (first | with_reducible refine pcD_con ?_ rfl ?_ | with_reducible refine pcDQ_con ?_ rfl (by first | exact .inl rfl | exact .inr rfl) ?_) <;> (try simp -implicitDefEqProofs (disch := omega) only [go_sem, ByteArray.size_append])) | ((with_reducible first | refine wCn ?_ | refine wC0n ?_); (try simp only [ByteArray.size_append]); (first | with_reducible refine pcD_con ?_ rfl ?_ | with_reducible refine pcDQ_con ?_ rfl (by first | exact .inl rfl | exact .inr rfl) ?_) <;> (try simp -implicitDefEqProofs (disch := omega) only [go_sem, ByteArray.size_append])) | ((with_reducible first | refine r1_append ?_); (try simp -implicitDefEqProofs (disch := omega) only [go_sem, ByteArray.size_append]))) | (with_reducible show opsR _ _ _ _ _ _; first | (with_reducible first | refine wG ?_)) | (with_reducible show gcase _ _ _ _; first | ((with_reducible first | refine gcaseTT ?_ | refine gcaseTF ?_ | refine gcaseFT ?_ | refine gcaseFF ?_ | refine gcaseU ?_) <;> (try simp -implicitDefEqProofs (disch := omega) only [go_sem, ByteArray.size_append])) | ((with_reducible first | refine wGt ?_ ?_ | refine wGf ?_ ?_) <;> intro h <;> (first | subst h | (simp only [h]; (try simp only [FX, LX, ByteArray.size_append] at h))) <;> (try simp -implicitDefEqProofs (disch := omega) only [go_sem, ByteArray.size_append]))) | (with_reducible show qR _ _ _ _ _ _ _; first | (with_reducible first | refine wGq ?_)) | (with_reducible show q1R _ _ _ _ _ _ _; first | ((with_reducible first | refine wCq ?_); (first | with_reducible refine pcD_con ?_ rfl ?_ | with_reducible refine pcDQ_con ?_ rfl (by first | exact .inl rfl | exact .inr rfl) ?_) <;> (try simp -implicitDefEqProofs (disch := omega) only [go_sem, ByteArray.size_append])) | ((with_reducible first | refine wCqn ?_); (try simp only [ByteArray.size_append]); (first | with_reducible refine pcD_con ?_ rfl ?_ | with_reducible refine pcDQ_con ?_ rfl (by first | exact .inl rfl | exact .inr rfl) ?_) <;> (try simp -implicitDefEqProofs (disch := omega) only [go_sem, ByteArray.size_append]))) | (with_reducible show nilB _ _ _; first | ((with_reducible first | refine nilB_pos (by omega) ?_ | refine nilB_i fun b hb => ?_); (try simp -implicitDefEqProofs (disch := omega) only [go_sem, ByteArray.size_append]))) | (with_reducible refine Imp.out ‹Imp _ _› ?_; (try simp only [TX, Nat.reduceBEq])) | assumption | omega | exact trivial | (simp only [LX]; omega))
      exact ⟨0 + 1, by omega, by omega, (Weak.low (by simp -implicitDefEqProofs (disch := omega) only [go_sem, sub_nil, sub_cons, LX, e]; try ((repeat' refine And.intro ?_ ?_) <;> first | rfl | trivial | (congr 3; omega) | (congr 1; omega))))⟩
  · repeat' (first | (with_reducible show _ ∧ _; first | (with_reducible refine And.intro (by first | omega | exact Or.inr trivial | exact trivial | (simp only [LX]; omega)) ?_) | (with_reducible refine And.intro ?_ ?_)) | (with_reducible show Wp _ _ _ _ _ _; first | ((with_reducible first | refine Wp.regionR ?_ | refine Wp.skip ?_ | refine Wp.ret ?_ | refine Wp.exit ?_ | refine Wp.drawR (by kernel_rfl) ?_ | refine Wp.label ?_); (try simp -implicitDefEqProofs (disch := omega) only [go_sem])) | (with_reducible first | refine wS fun K hK => ?_ | refine wB fun K hK => ?_ | refine wE ?_)) | (with_reducible show bcase _ _ _; first | (with_reducible first | refine bcaseT ?_ | refine bcaseF ?_) | ((with_reducible refine bcase_s ?_ ?_) <;> intro h <;> first | subst h | (try simp only [FX, LX] at h))) | (with_reducible show op1R _ _ _ _ _ _ _; first | ((with_reducible first | refine wC ?_ | refine wC0 ?_); (first | with_reducible refine pcD_con ?_ rfl ?_ | with_reducible refine pcDQ_con ?_ rfl (by first | exact .inl rfl | exact .inr rfl) ?_) <;> (try simp -implicitDefEqProofs (disch := omega) only [go_sem])) | ((with_reducible first | refine wCn ?_ | refine wC0n ?_); (first | with_reducible refine pcD_con ?_ rfl ?_ | with_reducible refine pcDQ_con ?_ rfl (by first | exact .inl rfl | exact .inr rfl) ?_) <;> (try simp -implicitDefEqProofs (disch := omega) only [go_sem])) | ((with_reducible first | refine r1_append ?_); (try simp -implicitDefEqProofs (disch := omega) only [go_sem]))) | (with_reducible show opsR _ _ _ _ _ _; first | (with_reducible first | refine wG ?_)) | (with_reducible show gcase _ _ _ _; first | ((with_reducible first | refine gcaseTT ?_ | refine gcaseTF ?_ | refine gcaseFT ?_ | refine gcaseFF ?_ | refine gcaseU ?_) <;> (try simp -implicitDefEqProofs (disch := omega) only [go_sem])) | ((with_reducible first | refine wGt ?_ ?_ | refine wGf ?_ ?_) <;> intro h <;> (first | subst h | (simp only [h]; (try simp only [FX, LX] at h))) <;> (try simp -implicitDefEqProofs (disch := omega) only [go_sem]))) | (with_reducible show qR _ _ _ _ _ _ _; first | (with_reducible first | refine wGq ?_)) | (with_reducible show q1R _ _ _ _ _ _ _; first | ((with_reducible first | refine wCq ?_); (first | with_reducible refine pcD_con ?_ rfl ?_ | with_reducible refine pcDQ_con ?_ rfl (by first | exact .inl rfl | exact .inr rfl) ?_) <;> (try simp -implicitDefEqProofs (disch := omega) only [go_sem])) | ((with_reducible first | refine wCqn ?_); (first | with_reducible refine pcD_con ?_ rfl ?_ | with_reducible refine pcDQ_con ?_ rfl (by first | exact .inl rfl | exact .inr rfl) ?_) <;> (try simp -implicitDefEqProofs (disch := omega) only [go_sem]))) | (with_reducible show nilB _ _ _; first | ((with_reducible first | refine nilB_pos (by omega) ?_ | refine nilB_i fun b hb => ?_); (try simp -implicitDefEqProofs (disch := omega) only [go_sem]))) | (with_reducible refine Imp.out ‹Imp _ _› ?_; (try simp only [TX, Nat.reduceBEq])) | assumption | omega | exact trivial | (simp only [LX]; omega))
    obtain rfl : i = ws.length := by omega
    rw [List.take_length]
end Go.PL
