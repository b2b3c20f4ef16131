/- A plain machine, sound for the given model, and contracts of functions over it, part 27: AKR AO AO2 AO3. Nothing is assumed. -/
import Derived.Test.YtgfncbcnplfpdabGreatDoorAB
import Derived.Lib.ItoaMem
import Derived.Laws.Strings
import Derived.Lib.Join
set_option linter.unusedSimpArgs false
set_option linter.unusedVariables false
set_option linter.unusedSectionVars false
/- AKR -/
namespace Go.PL
open Go Go.Proofs
set_option maxRecDepth 10000
set_option linter.unusedSimpArgs false
set_option linter.unusedVariables false
instance (n : Int) : Con CC 51 [.d (.i n)] (-9223372036854775808 ≤ n ∧ n ≤ 9223372036854775807) (.d (.s (itoaB n))) :=
  ⟨fun h => Den.ext ⟨rfl, rfl, .inl ⟨rfl, n, h.1, h.2, rfl, rfl⟩⟩⟩
theorem wrap8 {n : Int} (h1 : 0 ≤ n) (h2 : n < 256) : IntKind.wrap .u8 n = n := by
  have e1 : (2 ^ IntKind.u8.bits : Int) = 256 := by decide
  have e3 : IntKind.u8.signed = false := by decide
  simp only [IntKind.wrap, e1, e3, Bool.false_and, Bool.false_eq_true, if_false]
  omega
theorem digB_small {n : Nat} (h : n < 10) : digB n = strB [IntKind.u8.wrap (48 + (n : Int))] := by
  unfold digB strB
  rw [Lib.decDigits, dif_pos h, wrap8 (by omega) (by omega), show (48 + (n : Int)) = ((48 + n : Nat) : Int) by omega]
  rfl
theorem digB_big {n : Nat} (h : 10 ≤ n) : digB n = digB (n / 10) ++ strB [IntKind.u8.wrap (48 + ((n % 10 : Nat) : Int))] := by
  unfold digB strB
  rw [Lib.decDigits, dif_neg (by omega), wrap8 (by omega) (by omega), show (48 + ((n % 10 : Nat) : Int)) = ((48 + n % 10 : Nat) : Int) by omega]
  apply ByteArray.ext
  rw [ByteArray.data_append]
  show (Lib.decDigits (n / 10) ++ [UInt8.ofNat (48 + n % 10)]).toArray = (Lib.decDigits (n / 10)).toArray ++ [UInt8.ofNat (48 + n % 10)].toArray
  simp only [List.append_toArray]
theorem strB_size (l : List Int) : (strB l).size = l.length := by
  show ((l.map fun n => UInt8.ofNat n.toNat).toArray).size = _
  simp
theorem digB_size (n : Nat) : (digB n).size ≤ n + 1 := by
  show (Lib.decDigits n).toArray.size ≤ _
  induction n using Nat.strongRecOn with
  | _ n ih =>
    rw [Lib.decDigits]
    split
    · simp
    · have := ih (n / 10) (by omega)
      simp only [List.size_toArray, List.length_append, List.length_cons, List.length_nil] at this ⊢
      omega
theorem digits_c (n : Nat) : n ≤ 9223372036854775807 → CC 37 [.d (.i n)] [] (.d (.s (digB n))) [] := by
  induction n using Nat.strongRecOn with
  | _ n ih =>
    intro hn
    have hs := digB_size (n / 10)
    have e1 : (n : Int) / 10 = ((n / 10 : Nat) : Int) := by omega
    have e2 : (n : Int) % 10 = ((n % 10 : Nat) : Int) := by omega
    refine Den.pureI Tryz.func37 rfl 1 [.tmp 2] (by kernel_rfl) rfl rfl (by simp only [initE_nil, initE_cons, Nat.reduceAdd]; exact rfl) ?_
    repeat' first | ((with_reducible first | refine wC ?_ | refine wC0 ?_); (first | with_reducible refine pNc (ih (n / 10) (by omega) (by omega)) rfl ?_ | with_reducible refine pN ?_ rfl ?_ | (refine pcDn ?_; first | with_reducible refine pNc (ih (n / 10) (by omega) (by omega)) rfl ?_ | with_reducible refine pN ?_ rfl ?_))) | (with_reducible refine nx ?_; simp -implicitDefEqProofs (disch := omega) only [go_sem, e1, e2]) | (with_reducible show Wp _ _ _ _ _ _; first | refine rR ?_ | refine Wp.skip ?_ | refine Wp.ret ?_ | refine Wp.exit ?_ | refine Wp.drawR (by decide +kernel) ?_ | refine Wp.drawSR [7, 8, 9, 10] [false, false, false, false, false, false, false, true, true, true, true] (.op 7 [0,1,2] (.op 8 [0,1,2] (.op 9 [] (.op 10 [] .done)))) (by decide +kernel) ?_ | refine Wp.label ?_ | refine wS fun K hK => ?_ | refine wB fun K hK => ?_ | refine wE ?_) | (with_reducible show _ ∧ _; (first | refine an ?_ | refine And.intro ?_ ?_)) | (with_reducible show bcase _ _ _; first | refine bcaseT ?_ | refine bcaseF ?_ | (refine bcase_s ?_ ?_ <;> intro h <;> (first | subst h | (try simp only [FX, LX, e1, e2] at h)))) | (with_reducible show gcase _ _ _ _; first | refine gcaseTT ?_ | refine gcaseTF ?_ | refine gcaseFT ?_ | refine gcaseFF ?_ | refine gcaseU ?_ | ((first | refine wGt ?_ ?_ | refine wGf ?_ ?_) <;> intro h <;> (first | subst h | (simp only [h]; (try simp only [FX, LX, e1, e2] at h))))) | ((with_reducible refine wCq ?_); (first | with_reducible refine pQc (ih (n / 10) (by omega) (by omega)) rfl (by first | exact .inl rfl | exact .inr rfl) ?_ | with_reducible refine pQ ?_ rfl (by first | exact .inl rfl | exact .inr rfl) ?_ | (refine pcDQn ?_; first | with_reducible refine pQc (ih (n / 10) (by omega) (by omega)) rfl (by first | exact .inl rfl | exact .inr rfl) ?_ | with_reducible refine pQ ?_ rfl (by first | exact .inl rfl | exact .inr rfl) ?_))) | (with_reducible first | refine wG ?_ | refine wGq ?_ | refine r1_append ?_ | refine nilB_pos (by omega) ?_ | refine nilB_i fun b hb => ?_ | refine wGqA ?_ | refine wGl ?_ | refine wGt2 ?_) | ((with_reducible first | show qA _ _ _ _ _ _ | show lateR _ _ _ _ _ _ | show trR _ _ _ _ _ _); simp -implicitDefEqProofs (disch := omega) only [go_sem, e1, e2]) | (with_reducible refine Imp.out ‹Imp _ _› ?_; (try simp only [TX, Nat.reduceBEq])) | assumption | omega | exact trivial | (simp only [LX]; omega)
    · rw [digB_small (by omega)]
    · rw [strB_size]; simp only [List.length_cons, List.length_nil]; omega
    · rw [← digB_big (by omega)]
instance (n : Nat) : Con CC 37 [.d (.i n)] (n ≤ 9223372036854775807) (.d (.s (digB n))) := ⟨digits_c n⟩
theorem itoaB_nat (m : Nat) : itoaB (m : Int) = digB m := by unfold itoaB digB; rw [Lib.itoa_nonneg]
theorem joinB_zero {sep : ByteArray} : joinB [] sep = ⟨#[]⟩ := rfl
theorem joinB_first {ws : List ByteArray} {sep : ByteArray} (h : 0 < ws.length) : joinB (ws.take (0 + 1)) sep = joinB [] sep ++ ws.getD 0 ByteArray.empty := by
  match ws, h with
  | w :: r, _ =>
    apply ByteArray.ext
    rw [ByteArray.data_append]
    simp [joinB, Lib.join_one, Lib.join_nil]
theorem joinB_succ {ws : List ByteArray} {sep : ByteArray} {i : Nat} (h0 : 0 < i) (h : i < ws.length) : joinB (ws.take (i + 1)) sep = joinB (ws.take i) sep ++ sep ++ ws.getD i ByteArray.empty := by
  match ws, i, h0, h with
  | w :: r, k + 1, _, h =>
    have hk : k < r.length := by simpa using h
    have e : (r.map (·.data.toList))[k]? = some (r.getD k ByteArray.empty).data.toList := by
      rw [List.getElem?_map, List.getElem?_eq_getElem hk, List.getD, List.getElem?_eq_getElem hk]; rfl
    apply ByteArray.ext
    rw [ByteArray.data_append, ByteArray.data_append]
    simp only [joinB, List.take_succ_cons, List.map_cons, Lib.join_cons, List.map_take, List.getD_cons_succ]
    rw [Lib.joinTail_take_succ _ _ _ _ e]
    simp
/-- The bytes of words, each with one that comes between. -/
def szJ (ws : List ByteArray) (sep : ByteArray) : Nat := sep.size * ws.length + Lib.lens (ws.map (·.data.toList))
theorem lens_cons (x : List UInt8) (r : List (List UInt8)) : Lib.lens (x :: r) = x.length + Lib.lens r := by simp [Lib.lens]
theorem joinB_size (ws : List ByteArray) (sep : ByteArray) : (joinB ws sep).size ≤ szJ ws sep := by
  have key : (Lib.join (ws.map (·.data.toList)) sep.data.toList).length ≤ szJ ws sep := by
    match ws with
    | [] => simp [Lib.join_nil]
    | w :: r =>
      have e := Lib.joinTail_length sep.data.toList (r.map (·.data.toList))
      have e2 : sep.data.toList.length = sep.size := rfl
      have e3 : (r.map (·.data.toList)).length = r.length := List.length_map ..
      have e4 : sep.size * (w :: r).length = sep.size * r.length + sep.size := Nat.mul_succ _ _
      rw [List.map_cons, Lib.join_cons, List.length_append, e, e2, e3]
      unfold szJ
      rw [List.map_cons, lens_cons, e4]
      omega
  simpa [joinB, ByteArray.size] using key
theorem szJ_take (ws : List ByteArray) (sep : ByteArray) (k : Nat) : szJ (ws.take k) sep ≤ szJ ws sep := by
  unfold szJ
  have h1 := Lib.lens_take_le (ws.map (·.data.toList)) k
  have h2 : (ws.take k).length ≤ ws.length := by rw [List.length_take]; omega
  have h3 := Nat.mul_le_mul_left sep.size h2
  rw [List.map_take]
  omega
theorem szJ_le {ws : List ByteArray} {sep : ByteArray} {b : Nat} (h : ∀ w ∈ ws, w.size ≤ b) : szJ ws sep ≤ (sep.size + b) * ws.length := by
  have key : Lib.lens (ws.map (·.data.toList)) ≤ b * ws.length := by
    induction ws with
    | nil => simp [Lib.lens]
    | cons w r ih =>
      have h1 : w.data.toList.length ≤ b := h w (by simp)
      have h2 := ih fun x hx => h x (by simp [hx])
      rw [List.map_cons, lens_cons, List.length_cons, Nat.mul_succ]
      omega
  unfold szJ
  rw [Nat.add_mul]
  omega
theorem joinB_len (ws : List ByteArray) (sep : ByteArray) : (Lib.join (ws.map (·.data.toList)) sep.data.toList).length = (joinB ws sep).size := by simp [joinB, ByteArray.size]
instance (ws : List ByteArray) (s : ByteArray) : Con CC 78 [.d (.sl (ws.map .s)), .d (.s s)] (ws.length ≤ 1048576 ∧ szJ ws s ≤ 140737488355328) (.d (.s (joinB ws s))) :=
  ⟨fun h => Den.ext ⟨rfl, rfl, .inr (.inr (.inl ⟨rfl, ws, s, h.1, by rw [joinB_len]; exact Nat.le_trans (joinB_size ..) h.2, rfl, rfl⟩))⟩⟩
instance (ws : List ByteArray) (s : ByteArray) : Con CC 64 [.d (.sl (ws.map .s)), .d (.s s)] (ws.length ≤ 1048576 ∧ szJ ws s ≤ 140737488355328) (.d (.s (joinB ws s))) := by
  constructor; intro ⟨hl, hs⟩
  refine Den.pureI Tryz.func64 rfl 2 [.tmp 4] (by kernel_rfl) rfl rfl (by simp only [initE_nil, initE_cons, Nat.reduceAdd]; exact rfl) ?_
  repeat' first | ((with_reducible first | refine wC ?_ | refine wC0 ?_); (first | with_reducible refine pN ?_ rfl ?_ | (refine pcDn ?_; first | with_reducible refine pN ?_ rfl ?_))) | (with_reducible refine nx ?_; simp -implicitDefEqProofs (disch := omega) only [go_sem]) | (with_reducible show Wp _ _ _ _ _ _; first | refine rR ?_ | refine Wp.skip ?_ | refine Wp.ret ?_ | refine Wp.exit ?_ | refine rD ?_ | refine Wp.label ?_ | refine wS fun K hK => ?_ | refine wB fun K hK => ?_ | refine wE ?_) | (with_reducible show _ ∧ _; (first | refine an ?_ | refine And.intro ?_ ?_)) | (with_reducible show bcase _ _ _; first | refine bcaseT ?_ | refine bcaseF ?_ | (refine bcase_s ?_ ?_ <;> intro h <;> (first | subst h | (try simp only [FX, LX] at h)))) | (with_reducible show gcase _ _ _ _; first | refine gcaseTT ?_ | refine gcaseTF ?_ | refine gcaseFT ?_ | refine gcaseFF ?_ | refine gcaseU ?_ | ((first | refine wGt ?_ ?_ | refine wGf ?_ ?_) <;> intro h <;> (first | subst h | (simp only [h]; (try simp only [FX, LX] at h))))) | ((with_reducible refine wCq ?_); (first | with_reducible refine pQ ?_ rfl (by first | exact .inl rfl | exact .inr rfl) ?_ | (refine pcDQn ?_; first | with_reducible refine pQ ?_ rfl (by first | exact .inl rfl | exact .inr rfl) ?_))) | (with_reducible first | refine wG ?_ | refine wGq ?_ | refine r1_append ?_ | refine nilB_pos (by omega) ?_ | refine nilB_i fun b hb => ?_) | (with_reducible refine Imp.out ‹Imp _ _› ?_; (try simp only [TX, Nat.reduceBEq])) | assumption | omega | exact trivial | (simp only [LX]; omega)
  refine Wp.loopR (fun i : Nat => ⟨[(0, .d (.sl (ws.map .s))), (1, .d (.s s)), (5, .d (.s (joinB (ws.take i) s))), (6, .d (.i i))], []⟩) (fun i => ws.length - i) (fun i => i ≤ ws.length) 0 (Weak.low (by simp -implicitDefEqProofs (disch := omega) only [go_sem, sub_nil, sub_cons, LX, joinB_zero, List.take_zero]; try ((repeat' refine And.intro ?_ ?_) <;> first | rfl | trivial | (congr 3; omega) | (congr 1; omega)))) (by simp) ?_
  rintro i hi K hK
  by_cases hil : i < ws.length
  · by_cases h0 : 0 < i
    · have e := joinB_succ (sep := s) h0 hil
      have h1 := Nat.le_trans (joinB_size _ _) (szJ_take ws s (i + 1))
      rw [e, ByteArray.size_append, ByteArray.size_append] at h1
      repeat' first | ((with_reducible first | refine wC ?_ | refine wC0 ?_); (first | with_reducible refine pN ?_ rfl ?_ | (refine pcDn ?_; first | with_reducible refine pN ?_ rfl ?_))) | (with_reducible refine nx ?_; simp -implicitDefEqProofs (disch := omega) only [go_sem, ByteArray.size_append]) | (with_reducible show Wp _ _ _ _ _ _; first | refine rR ?_ | refine Wp.skip ?_ | refine Wp.ret ?_ | refine Wp.exit ?_ | refine rD ?_ | refine Wp.label ?_ | refine wS fun K hK => ?_ | refine wB fun K hK => ?_ | refine wE ?_) | (with_reducible show _ ∧ _; (first | refine an ?_ | refine And.intro ?_ ?_)) | (with_reducible show bcase _ _ _; first | refine bcaseT ?_ | refine bcaseF ?_ | (refine bcase_s ?_ ?_ <;> intro h <;> (first | subst h | (try simp only [FX, LX, ByteArray.size_append] at h)))) | (with_reducible show gcase _ _ _ _; first | refine gcaseTT ?_ | refine gcaseTF ?_ | refine gcaseFT ?_ | refine gcaseFF ?_ | refine gcaseU ?_ | ((first | refine wGt ?_ ?_ | refine wGf ?_ ?_) <;> intro h <;> (first | subst h | (simp only [h]; (try simp only [FX, LX, ByteArray.size_append] at h))))) | ((with_reducible refine wCq ?_); (first | with_reducible refine pQ ?_ rfl (by first | exact .inl rfl | exact .inr rfl) ?_ | (refine pcDQn ?_; first | with_reducible refine pQ ?_ rfl (by first | exact .inl rfl | exact .inr rfl) ?_))) | (with_reducible first | refine wG ?_ | refine wGq ?_ | refine r1_append ?_ | refine nilB_pos (by omega) ?_ | refine nilB_i fun b hb => ?_) | (with_reducible refine Imp.out ‹Imp _ _› ?_; (try simp only [TX, Nat.reduceBEq])) | assumption | omega | exact trivial | (simp only [LX]; omega)
      exact ⟨i + 1, by omega, by omega, (Weak.low (by simp -implicitDefEqProofs (disch := omega) only [go_sem, sub_nil, sub_cons, LX, e]; try ((repeat' refine And.intro ?_ ?_) <;> first | rfl | trivial | (congr 3; omega) | (congr 1; omega))))⟩
    · obtain rfl : i = 0 := by omega
      have e := joinB_first (sep := s) hil
      have h1 := Nat.le_trans (joinB_size _ _) (szJ_take ws s (0 + 1))
      rw [e, ByteArray.size_append] at h1
      repeat' first | ((with_reducible first | refine wC ?_ | refine wC0 ?_); (first | with_reducible refine pN ?_ rfl ?_ | (refine pcDn ?_; first | with_reducible refine pN ?_ rfl ?_))) | (with_reducible refine nx ?_; simp -implicitDefEqProofs (disch := omega) only [go_sem, ByteArray.size_append]) | (with_reducible show Wp _ _ _ _ _ _; first | refine rR ?_ | refine Wp.skip ?_ | refine Wp.ret ?_ | refine Wp.exit ?_ | refine rD ?_ | refine Wp.label ?_ | refine wS fun K hK => ?_ | refine wB fun K hK => ?_ | refine wE ?_) | (with_reducible show _ ∧ _; (first | refine an ?_ | refine And.intro ?_ ?_)) | (with_reducible show bcase _ _ _; first | refine bcaseT ?_ | refine bcaseF ?_ | (refine bcase_s ?_ ?_ <;> intro h <;> (first | subst h | (try simp only [FX, LX, ByteArray.size_append] at h)))) | (with_reducible show gcase _ _ _ _; first | refine gcaseTT ?_ | refine gcaseTF ?_ | refine gcaseFT ?_ | refine gcaseFF ?_ | refine gcaseU ?_ | ((first | refine wGt ?_ ?_ | refine wGf ?_ ?_) <;> intro h <;> (first | subst h | (simp only [h]; (try simp only [FX, LX, ByteArray.size_append] at h))))) | ((with_reducible refine wCq ?_); (first | with_reducible refine pQ ?_ rfl (by first | exact .inl rfl | exact .inr rfl) ?_ | (refine pcDQn ?_; first | with_reducible refine pQ ?_ rfl (by first | exact .inl rfl | exact .inr rfl) ?_))) | (with_reducible first | refine wG ?_ | refine wGq ?_ | refine r1_append ?_ | refine nilB_pos (by omega) ?_ | refine nilB_i fun b hb => ?_) | (with_reducible refine Imp.out ‹Imp _ _› ?_; (try simp only [TX, Nat.reduceBEq])) | assumption | omega | exact trivial | (simp only [LX]; omega)
      exact ⟨0 + 1, by omega, by omega, (Weak.low (by simp -implicitDefEqProofs (disch := omega) only [go_sem, sub_nil, sub_cons, LX, e]; try ((repeat' refine And.intro ?_ ?_) <;> first | rfl | trivial | (congr 3; omega) | (congr 1; omega))))⟩
  · repeat' first | ((with_reducible first | refine wC ?_ | refine wC0 ?_); (first | with_reducible refine pN ?_ rfl ?_ | (refine pcDn ?_; first | with_reducible refine pN ?_ rfl ?_))) | (with_reducible refine nx ?_; simp -implicitDefEqProofs (disch := omega) only [go_sem]) | (with_reducible show Wp _ _ _ _ _ _; first | refine rR ?_ | refine Wp.skip ?_ | refine Wp.ret ?_ | refine Wp.exit ?_ | refine rD ?_ | refine Wp.label ?_ | refine wS fun K hK => ?_ | refine wB fun K hK => ?_ | refine wE ?_) | (with_reducible show _ ∧ _; (first | refine an ?_ | refine And.intro ?_ ?_)) | (with_reducible show bcase _ _ _; first | refine bcaseT ?_ | refine bcaseF ?_ | (refine bcase_s ?_ ?_ <;> intro h <;> (first | subst h | (try simp only [FX, LX] at h)))) | (with_reducible show gcase _ _ _ _; first | refine gcaseTT ?_ | refine gcaseTF ?_ | refine gcaseFT ?_ | refine gcaseFF ?_ | refine gcaseU ?_ | ((first | refine wGt ?_ ?_ | refine wGf ?_ ?_) <;> intro h <;> (first | subst h | (simp only [h]; (try simp only [FX, LX] at h))))) | ((with_reducible refine wCq ?_); (first | with_reducible refine pQ ?_ rfl (by first | exact .inl rfl | exact .inr rfl) ?_ | (refine pcDQn ?_; first | with_reducible refine pQ ?_ rfl (by first | exact .inl rfl | exact .inr rfl) ?_))) | (with_reducible first | refine wG ?_ | refine wGq ?_ | refine r1_append ?_ | refine nilB_pos (by omega) ?_ | refine nilB_i fun b hb => ?_) | (with_reducible refine Imp.out ‹Imp _ _› ?_; (try simp only [TX, Nat.reduceBEq])) | assumption | omega | exact trivial | (simp only [LX]; omega)
    obtain rfl : i = ws.length := by omega
    rw [List.take_length]
end Go.PL

/- AO -/
namespace Go.PL
open Go Go.Proofs
set_option maxRecDepth 10000
set_option linter.unusedSimpArgs false
set_option linter.unusedVariables false
/-- A text of bytes. -/
def strT (l : List UInt8) : ByteArray := ⟨l.toArray⟩
theorem strT_size {l : List UInt8} : (strT l).size = l.length := by simp [strT, ByteArray.size]
theorem strT_app {a b : List UInt8} : strT a ++ strT b = strT (a ++ b) := by
  apply ByteArray.ext
  rw [ByteArray.data_append]
  simp [strT]
theorem strT_tail {c : UInt8} {l : List UInt8} : (strT (c :: l)).extract 1 (strT (c :: l)).size = strT l := by
  apply ByteArray.ext
  rw [ByteArray.data_extract]
  simp [strT, ByteArray.size]
theorem strT_tail4 {c : UInt8} {l : List UInt8} (h : l.length = 4) : (strT (c :: l)).extract 1 5 = strT l := by
  have e : (strT (c :: l)).size = 5 := by rw [strT_size, List.length_cons, h]
  rw [← e]; exact strT_tail
theorem natTB_nil : natTB [] = strT [48] := rfl
theorem natTB_ne {a : List Int} (h : a ≠ []) : natTB a = strT (textR a.reverse) := by rw [natTB, if_neg h]; rfl
abbrev limbs (a : List Int) : Prop := ∀ x ∈ a, 0 ≤ x ∧ x ≤ 9999
theorem natTB_size {a : List Int} (h : limbs a) : (natTB a).size ≤ 4 * a.length + 1 := by
  by_cases e : a = []
  · subst e; rw [natTB_nil, strT_size]; simp
  · rw [natTB_ne e, strT_size]
    have := textR_len (l := a.reverse) fun x hx => h x (by simpa using hx)
    rw [List.length_reverse] at this; omega
theorem digits_i (z : Int) (h : 0 ≤ z ∧ z ≤ 9999) : CC 37 [.d (.i z)] [] (.d (.s (strT (Lib.decDigits z.toNat)))) [] := by
  obtain ⟨n, rfl⟩ : ∃ n : Nat, z = n := ⟨z.toNat, by omega⟩
  exact digits_c n (by omega)
theorem digits_o (z : Int) (h : 0 ≤ z ∧ z ≤ 9999) : CC 37 [.d (.i (10000 + z))] [] (.d (.s (strT (49 :: pad4 z)))) [] := by
  rw [← pad4_lim h]
  obtain ⟨n, hn⟩ : ∃ n : Nat, 10000 + z = n := ⟨(10000 + z).toNat, by omega⟩
  rw [hn]
  exact digits_c n (by omega)
instance (a : List Int) : Con CC 79 [.d (.sl (a.map .i))] (a.length ≤ 1048576 ∧ limbs a) (.d (.s (natTB a))) :=
  ⟨fun h => Den.ext ⟨rfl, rfl, .inr (.inl ⟨rfl, a, h.1, h.2, rfl, rfl⟩)⟩⟩
instance (a : List Int) : Con CC 65 [.d (.sl (a.map .i))] (a.length ≤ 1048576 ∧ limbs a) (.d (.s (natTB a))) := by
  constructor; intro ⟨hl, ha⟩
  by_cases h0 : a.length = 0
  · have e : a = [] := List.eq_nil_of_length_eq_zero h0
    subst e
    refine Den.pureI Tryz.func65 rfl 1 [.tmp 2] (by kernel_rfl) rfl rfl (by simp only [initE_nil, initE_cons, Nat.reduceAdd]; exact rfl) ?_
    repeat' first | ((with_reducible first | refine wC ?_ | refine wC0 ?_); (first | with_reducible refine pN ?_ rfl ?_ | (refine pcDn ?_; first | with_reducible refine pN ?_ rfl ?_))) | (with_reducible refine nx ?_; simp -implicitDefEqProofs (disch := omega) only [go_sem]) | (with_reducible show Wp _ _ _ _ _ _; first | refine rR ?_ | refine Wp.skip ?_ | refine Wp.ret ?_ | refine Wp.exit ?_ | refine rD ?_ | refine Wp.label ?_ | refine wS fun K hK => ?_ | refine wB fun K hK => ?_ | refine wE ?_) | (with_reducible show _ ∧ _; (first | refine an ?_ | refine And.intro ?_ ?_)) | (with_reducible show bcase _ _ _; first | refine bcaseT ?_ | refine bcaseF ?_ | (refine bcase_s ?_ ?_ <;> intro h <;> (first | subst h | (try simp only [FX, LX] at h)))) | (with_reducible show gcase _ _ _ _; first | refine gcaseTT ?_ | refine gcaseTF ?_ | refine gcaseFT ?_ | refine gcaseFF ?_ | refine gcaseU ?_ | ((first | refine wGt ?_ ?_ | refine wGf ?_ ?_) <;> intro h <;> (first | subst h | (simp only [h]; (try simp only [FX, LX] at h))))) | ((with_reducible refine wCq ?_); (first | with_reducible refine pQ ?_ rfl (by first | exact .inl rfl | exact .inr rfl) ?_ | (refine pcDQn ?_; first | with_reducible refine pQ ?_ rfl (by first | exact .inl rfl | exact .inr rfl) ?_))) | (with_reducible first | refine wG ?_ | refine wGq ?_ | refine r1_append ?_ | refine nilB_pos (by omega) ?_ | refine nilB_i fun b hb => ?_) | (with_reducible refine Imp.out ‹Imp _ _› ?_; (try simp only [TX, Nat.reduceBEq])) | assumption | omega | exact trivial | (simp only [LX]; omega)
    rfl
  have hne : a ≠ [] := by rintro rfl; exact h0 rfl
  have hd := digits_i _ (ha _ (getD_mem 0 (show a.length - 1 < a.length by omega)))
  have e1 : ((a.length : Int) - 1).toNat = a.length - 1 := by omega
  have htl : ∀ k, (textR (a.drop k).reverse).length ≤ 4 * a.length := fun k => by
    have := textR_len (l := (a.drop k).reverse) fun x hx => ha x (List.mem_of_mem_drop (by simpa using hx))
    rw [List.length_reverse, List.length_drop] at this
    omega
  refine Den.pureI Tryz.func65 rfl 1 [.tmp 2] (by kernel_rfl) rfl rfl (by simp only [initE_nil, initE_cons, Nat.reduceAdd]; exact rfl) ?_
  repeat' first | ((with_reducible first | refine wC ?_ | refine wC0 ?_); (first | with_reducible refine pNc (hd) rfl ?_ | with_reducible refine pN ?_ rfl ?_ | (refine pcDn ?_; first | with_reducible refine pNc (hd) rfl ?_ | with_reducible refine pN ?_ rfl ?_))) | (with_reducible refine nx ?_; simp -implicitDefEqProofs (disch := omega) only [go_sem, e1]) | (with_reducible show Wp _ _ _ _ _ _; first | refine rR ?_ | refine Wp.skip ?_ | refine Wp.ret ?_ | refine Wp.exit ?_ | refine rD ?_ | refine Wp.label ?_ | refine wS fun K hK => ?_ | refine wB fun K hK => ?_ | refine wE ?_) | (with_reducible show _ ∧ _; (first | refine an ?_ | refine And.intro ?_ ?_)) | (with_reducible show bcase _ _ _; first | refine bcaseT ?_ | refine bcaseF ?_ | (refine bcase_s ?_ ?_ <;> intro h <;> (first | subst h | (try simp only [FX, LX, e1] at h)))) | (with_reducible show gcase _ _ _ _; first | refine gcaseTT ?_ | refine gcaseTF ?_ | refine gcaseFT ?_ | refine gcaseFF ?_ | refine gcaseU ?_ | ((first | refine wGt ?_ ?_ | refine wGf ?_ ?_) <;> intro h <;> (first | subst h | (simp only [h]; (try simp only [FX, LX, e1] at h))))) | ((with_reducible refine wCq ?_); (first | with_reducible refine pQc (hd) rfl (by first | exact .inl rfl | exact .inr rfl) ?_ | with_reducible refine pQ ?_ rfl (by first | exact .inl rfl | exact .inr rfl) ?_ | (refine pcDQn ?_; first | with_reducible refine pQc (hd) rfl (by first | exact .inl rfl | exact .inr rfl) ?_ | with_reducible refine pQ ?_ rfl (by first | exact .inl rfl | exact .inr rfl) ?_))) | (with_reducible first | refine wG ?_ | refine wGq ?_ | refine r1_append ?_ | refine nilB_pos (by omega) ?_ | refine nilB_i fun b hb => ?_) | (with_reducible refine Imp.out ‹Imp _ _› ?_; (try simp only [TX, Nat.reduceBEq])) | assumption | omega | exact trivial | (simp only [LX]; omega)
  refine Wp.loopR (fun x : Nat => ⟨[(0, .d (.sl (a.map .i))), (3, .d (.s (strT (textR (a.drop x).reverse)))), (4, .d (.i ((x : Int) - 1)))], []⟩) (fun x => x) (fun x => x < a.length) (a.length - 1)
    (Weak.low (by simp -implicitDefEqProofs (disch := omega) only [go_sem, sub_nil, sub_cons, LX, textR_top (show 0 < a.length by omega), e1, show (((a.length - 1 : Nat) : Int) - 1) = (a.length : Int) - 2 by omega]; try ((repeat' refine And.intro ?_ ?_) <;> first | rfl | trivial | (congr 3; omega) | (congr 1; omega)))) (by omega) ?_
  rintro x hx K hK
  have hd2 := htl x
  by_cases h1 : x = 0
  · subst h1
    repeat' first | ((with_reducible first | refine wC ?_ | refine wC0 ?_); (first | with_reducible refine pN ?_ rfl ?_ | (refine pcDn ?_; first | with_reducible refine pN ?_ rfl ?_))) | (with_reducible refine nx ?_; simp -implicitDefEqProofs (disch := omega) only [go_sem]) | (with_reducible show Wp _ _ _ _ _ _; first | refine rR ?_ | refine Wp.skip ?_ | refine Wp.ret ?_ | refine Wp.exit ?_ | refine rD ?_ | refine Wp.label ?_ | refine wS fun K hK => ?_ | refine wB fun K hK => ?_ | refine wE ?_) | (with_reducible show _ ∧ _; (first | refine an ?_ | refine And.intro ?_ ?_)) | (with_reducible show bcase _ _ _; first | refine bcaseT ?_ | refine bcaseF ?_ | (refine bcase_s ?_ ?_ <;> intro h <;> (first | subst h | (try simp only [FX, LX] at h)))) | (with_reducible show gcase _ _ _ _; first | refine gcaseTT ?_ | refine gcaseTF ?_ | refine gcaseFT ?_ | refine gcaseFF ?_ | refine gcaseU ?_ | ((first | refine wGt ?_ ?_ | refine wGf ?_ ?_) <;> intro h <;> (first | subst h | (simp only [h]; (try simp only [FX, LX] at h))))) | ((with_reducible refine wCq ?_); (first | with_reducible refine pQ ?_ rfl (by first | exact .inl rfl | exact .inr rfl) ?_ | (refine pcDQn ?_; first | with_reducible refine pQ ?_ rfl (by first | exact .inl rfl | exact .inr rfl) ?_))) | (with_reducible first | refine wG ?_ | refine wGq ?_ | refine r1_append ?_ | refine nilB_pos (by omega) ?_ | refine nilB_i fun b hb => ?_) | (with_reducible refine Imp.out ‹Imp _ _› ?_; (try simp only [TX, Nat.reduceBEq])) | assumption | omega | exact trivial | (simp only [LX]; omega)
    rw [natTB_ne hne]
  · have hlim := ha _ (getD_mem 0 (show x - 1 < a.length by omega))
    have e2 : ((x : Int) - 1).toNat = x - 1 := by omega
    have ho := digits_o _ hlim
    have hp := pad4_len hlim
    have hd3 := htl (x - 1)
    have ht5 := strT_tail4 (c := 49) hp
    have et : textR (a.drop (x - 1)).reverse = textR (a.drop x).reverse ++ pad4 (a.getD (x - 1) 0) := by
      have := textR_drop (a := a) (k := x - 1) (by omega)
      rw [show x - 1 + 1 = x by omega] at this
      exact this
    repeat' first | ((with_reducible first | refine wC ?_ | refine wC0 ?_); (first | with_reducible refine pNc (ho) rfl ?_ | with_reducible refine pN ?_ rfl ?_ | (refine pcDn ?_; first | with_reducible refine pNc (ho) rfl ?_ | with_reducible refine pN ?_ rfl ?_))) | (with_reducible refine nx ?_; simp -implicitDefEqProofs (disch := omega) only [go_sem, e2, strT_size, ht5, strT_app, hp]) | (with_reducible show Wp _ _ _ _ _ _; first | refine rR ?_ | refine Wp.skip ?_ | refine Wp.ret ?_ | refine Wp.exit ?_ | refine rD ?_ | refine Wp.label ?_ | refine wS fun K hK => ?_ | refine wB fun K hK => ?_ | refine wE ?_) | (with_reducible show _ ∧ _; (first | refine an ?_ | refine And.intro ?_ ?_)) | (with_reducible show bcase _ _ _; first | refine bcaseT ?_ | refine bcaseF ?_ | (refine bcase_s ?_ ?_ <;> intro h <;> (first | subst h | (try simp only [FX, LX, e2, strT_size, ht5, strT_app, hp] at h)))) | (with_reducible show gcase _ _ _ _; first | refine gcaseTT ?_ | refine gcaseTF ?_ | refine gcaseFT ?_ | refine gcaseFF ?_ | refine gcaseU ?_ | ((first | refine wGt ?_ ?_ | refine wGf ?_ ?_) <;> intro h <;> (first | subst h | (simp only [h]; (try simp only [FX, LX, e2, strT_size, ht5, strT_app, hp] at h))))) | ((with_reducible refine wCq ?_); (first | with_reducible refine pQc (ho) rfl (by first | exact .inl rfl | exact .inr rfl) ?_ | with_reducible refine pQ ?_ rfl (by first | exact .inl rfl | exact .inr rfl) ?_ | (refine pcDQn ?_; first | with_reducible refine pQc (ho) rfl (by first | exact .inl rfl | exact .inr rfl) ?_ | with_reducible refine pQ ?_ rfl (by first | exact .inl rfl | exact .inr rfl) ?_))) | (with_reducible first | refine wG ?_ | refine wGq ?_ | refine r1_append ?_ | refine nilB_pos (by omega) ?_ | refine nilB_i fun b hb => ?_) | (with_reducible refine Imp.out ‹Imp _ _› ?_; (try simp only [TX, Nat.reduceBEq])) | assumption | omega | exact trivial | (simp only [LX]; omega)
    exact ⟨x - 1, by omega, by omega, (Weak.low (by simp -implicitDefEqProofs (disch := omega) only [go_sem, sub_nil, sub_cons, LX, et, show (((x - 1 : Nat) : Int) - 1) = (x : Int) - 1 - 1 by omega]; try ((repeat' refine And.intro ?_ ?_) <;> first | rfl | trivial | (congr 3; omega) | (congr 1; omega))))⟩
end Go.PL

/- AO2 -/
namespace Go.PL
open Go Go.Proofs
set_option maxRecDepth 10000
set_option linter.unusedSimpArgs false
set_option linter.unusedVariables false
theorem limbs_digs (m : Nat) : limbs (digs m) := fun x hx => by have := Dig.digs m x hx; omega
theorem okRat_parts {g : Bool} {u v : List Int} (h : okRat ⟨g, u, v⟩ = true) : ∃ m n, u = digs m ∧ v = digs n ∧ (digs m).length ≤ 40 ∧ (digs n).length ≤ 40 := by
  unfold okRat at h
  simp only [Bool.and_eq_true] at h
  obtain ⟨m, hm, hm2⟩ := okNat_digs h.1.1.1.1
  obtain ⟨n, hn, hn2⟩ := okNat_digs h.1.1.1.2
  exact ⟨m, n, hm, hn, hm2, hn2⟩
theorem cmp_one (n : Nat) : cmpN n 1 = 0 ↔ digs n = [1] := by
  constructor
  · intro h
    have : n = 1 := by unfold cmpN at h; split at h <;> (try split at h) <;> omega
    rw [this, digs_one]
  · intro h
    have : digs n = digs 1 := by rw [h, digs_one]
    rw [digs_inj this]; rfl
/-- A rational's text. -/
def ratTB (r : Rt) : ByteArray := if r.den = [1] then (if r.neg then strT [45] ++ natTB r.num else natTB r.num) else (if r.neg then strT [45] ++ natTB r.num else natTB r.num) ++ (strT [47] ++ natTB r.den)
theorem ba_assoc (a b c : ByteArray) : a ++ b ++ c = a ++ (b ++ c) := by
  apply ByteArray.ext
  simp only [ByteArray.data_append, Array.append_assoc]
theorem ratTB_size {r : Rt} (h : okRat r = true) : (ratTB r).size ≤ 400 := by
  obtain ⟨g, u, v⟩ := r
  obtain ⟨m, n, rfl, rfl, hm, hn⟩ := okRat_parts h
  have h1 := natTB_size (limbs_digs m)
  have h2 := natTB_size (limbs_digs n)
  have e1 : (strT [45]).size = 1 := rfl
  have e2 : (strT [47]).size = 1 := rfl
  unfold ratTB
  simp only
  split <;> split <;> (try simp only [ByteArray.size_append]) <;> omega
instance (g : Bool) (u v : List Int) : Con CC 36 [.d (.agg [.b g, .sl (u.map .i), .sl (v.map .i)])] (okRat ⟨g, u, v⟩ = true) (.d (.s (ratTB ⟨g, u, v⟩))) := by
  constructor; intro h
  obtain ⟨m, n, rfl, rfl, hm, hn⟩ := okRat_parts h
  have h1 := natTB_size (limbs_digs m)
  have h2 := natTB_size (limbs_digs n)
  have l1 := limbs_digs m
  have l2 := limbs_digs n
  have e1 : (ByteArray.mk #[45]).size = 1 := rfl
  have e2 : (ByteArray.mk #[47]).size = 1 := rfl
  have hc := cmp_one n
  refine Den.pureI Tryz.func36 rfl 1 [.tmp 2] (by kernel_rfl) rfl rfl (by simp only [initE_nil, initE_cons, Nat.reduceAdd]; exact rfl) ?_
  repeat' first | ((with_reducible first | refine wC ?_ | refine wC0 ?_); (first | with_reducible refine pN ?_ rfl ?_ | (refine pcDn ?_; first | with_reducible refine pN ?_ rfl ?_))) | (with_reducible refine nx ?_; simp -implicitDefEqProofs (disch := omega) only [go_sem, e1, e2, ByteArray.size_append]) | (with_reducible show Wp _ _ _ _ _ _; first | refine rR ?_ | refine Wp.skip ?_ | refine Wp.ret ?_ | refine Wp.exit ?_ | refine rD ?_ | refine Wp.label ?_ | refine wS fun K hK => ?_ | refine wB fun K hK => ?_ | refine wE ?_) | (with_reducible show _ ∧ _; (first | refine an ?_ | refine And.intro ?_ ?_)) | (with_reducible show bcase _ _ _; first | refine bcaseT ?_ | refine bcaseF ?_ | (refine bcase_s ?_ ?_ <;> intro h <;> (first | subst h | (try simp only [FX, LX, e1, e2, ByteArray.size_append] at h)))) | (with_reducible show gcase _ _ _ _; first | refine gcaseTT ?_ | refine gcaseTF ?_ | refine gcaseFT ?_ | refine gcaseFF ?_ | refine gcaseU ?_ | ((first | refine wGt ?_ ?_ | refine wGf ?_ ?_) <;> intro h <;> (first | subst h | (simp only [h]; (try simp only [FX, LX, e1, e2, ByteArray.size_append] at h))))) | ((with_reducible refine wCq ?_); (first | with_reducible refine pQ ?_ rfl (by first | exact .inl rfl | exact .inr rfl) ?_ | (refine pcDQn ?_; first | with_reducible refine pQ ?_ rfl (by first | exact .inl rfl | exact .inr rfl) ?_))) | (with_reducible first | refine wG ?_ | refine wGq ?_ | refine r1_append ?_ | refine nilB_pos (by omega) ?_ | refine nilB_i fun b hb => ?_) | (with_reducible refine Imp.out ‹Imp _ _› ?_; (try simp only [TX, Nat.reduceBEq])) | assumption | omega | exact trivial | (simp only [LX]; omega)
  all_goals (simp only [ratTB])
  all_goals (first | (rw [if_neg (fun e => (by assumption : cmpN n 1 ≠ 0) (hc.2 e))]) | rw [if_pos (hc.1 (by assumption))])
  all_goals (first | rfl | (simp only [if_true, Bool.false_eq_true, if_false, ba_assoc]; rfl))
instance (g : Bool) (u v : List Int) : Con CC 50 [.d (.agg [.b g, .sl (u.map .i), .sl (v.map .i)])] (okRat ⟨g, u, v⟩ = true) (.d (.s (ratTB ⟨g, u, v⟩))) := by
  constructor; intro h
  obtain ⟨m, n, rfl, rfl, hm, hn⟩ := okRat_parts h
  have h1 := natTB_size (limbs_digs m)
  have h2 := natTB_size (limbs_digs n)
  have l1 := limbs_digs m
  have l2 := limbs_digs n
  have e1 : (ByteArray.mk #[45]).size = 1 := rfl
  have e2 : (ByteArray.mk #[47]).size = 1 := rfl
  have hc := cmp_one n
  refine Den.pureI Tryz.func50 rfl 1 [.tmp 2] (by kernel_rfl) rfl rfl (by simp only [initE_nil, initE_cons, Nat.reduceAdd]; exact rfl) ?_
  repeat' first | ((with_reducible first | refine wC ?_ | refine wC0 ?_); (first | with_reducible refine pN ?_ rfl ?_ | (refine pcDn ?_; first | with_reducible refine pN ?_ rfl ?_))) | (with_reducible refine nx ?_; simp -implicitDefEqProofs (disch := omega) only [go_sem, e1, e2, ByteArray.size_append]) | (with_reducible show Wp _ _ _ _ _ _; first | refine rR ?_ | refine Wp.skip ?_ | refine Wp.ret ?_ | refine Wp.exit ?_ | refine Wp.drawR (by decide +kernel) ?_ | refine Wp.drawSR [2, 3, 4] [false, false, true, true, true] (.op 2 [0,1] (.op 3 [] (.op 4 [] .done))) (by decide +kernel) ?_ | refine Wp.label ?_ | refine wS fun K hK => ?_ | refine wB fun K hK => ?_ | refine wE ?_) | (with_reducible show _ ∧ _; (first | refine an ?_ | refine And.intro ?_ ?_)) | (with_reducible show bcase _ _ _; first | refine bcaseT ?_ | refine bcaseF ?_ | (refine bcase_s ?_ ?_ <;> intro h <;> (first | subst h | (try simp only [FX, LX, e1, e2, ByteArray.size_append] at h)))) | (with_reducible show gcase _ _ _ _; first | refine gcaseTT ?_ | refine gcaseTF ?_ | refine gcaseFT ?_ | refine gcaseFF ?_ | refine gcaseU ?_ | ((first | refine wGt ?_ ?_ | refine wGf ?_ ?_) <;> intro h <;> (first | subst h | (simp only [h]; (try simp only [FX, LX, e1, e2, ByteArray.size_append] at h))))) | ((with_reducible refine wCq ?_); (first | with_reducible refine pQ ?_ rfl (by first | exact .inl rfl | exact .inr rfl) ?_ | (refine pcDQn ?_; first | with_reducible refine pQ ?_ rfl (by first | exact .inl rfl | exact .inr rfl) ?_))) | (with_reducible first | refine wG ?_ | refine wGq ?_ | refine r1_append ?_ | refine nilB_pos (by omega) ?_ | refine nilB_i fun b hb => ?_ | refine wGqA ?_ | refine wGl ?_ | refine wGt2 ?_) | ((with_reducible first | show qA _ _ _ _ _ _ | show lateR _ _ _ _ _ _ | show trR _ _ _ _ _ _); simp -implicitDefEqProofs (disch := omega) only [go_sem, e1, e2, ByteArray.size_append]) | (with_reducible refine Imp.out ‹Imp _ _› ?_; (try simp only [TX, Nat.reduceBEq])) | assumption | omega | exact trivial | (simp only [LX]; omega)
  all_goals (simp only [ratTB])
  all_goals (first | (rw [if_neg (fun e => (by assumption : cmpN n 1 ≠ 0) (hc.2 e))]) | rw [if_pos (hc.1 (by assumption))])
  all_goals (first | rfl | (simp only [if_true, Bool.false_eq_true, if_false, ba_assoc]; rfl))
theorem arr_R1 {b : Bool} {x y : List Int} {fz : Bool} : Ob.arr 3 [D.agg [.val (.bool b), .sl (x.map .i), .sl (y.map .i)]] fz = .arr 3 ([(⟨b, x, y⟩ : Rt)].map encR) fz := rfl
attribute [go_sem] arr_R1
theorem bR_sz {r : Rt} (h : ¬ szL 1048576 (szR r) < 0) : bR r := by
  have h2 : szR r ≤ 1048576 := by
    unfold szL at h
    split at h <;> omega
  unfold szR at h2
  exact ⟨by omega, by omega⟩
end Go.PL

/- AO3 -/
namespace Go.PL
open Go Go.Proofs
set_option maxRecDepth 10000
set_option linter.unusedSimpArgs false
set_option linter.unusedVariables false
abbrev rt0 : Rt := ⟨false, [], []⟩
abbrev spB : ByteArray := ByteArray.mk #[32]
/-- A vector's text. -/
def vecTB (l : List Rt) : ByteArray := joinB (l.map ratTB) spB
theorem okVec_parts {l : List Rt} (h : okVec l = true) : l.length ≤ 4 ∧ ∀ r ∈ l, okRat r = true := by
  unfold okVec at h
  rw [decide_eq_true_eq] at h
  refine ⟨h.2.1, fun r hr => ?_⟩
  obtain ⟨i, hi, rfl⟩ := List.getElem_of_mem hr
  have := h.2.2 i hi
  simpa only [List.getD, List.getElem?_eq_getElem hi, Option.getD_some] using this
theorem szJ_rats {l : List Rt} (hl : l.length ≤ 4) (h : ∀ r ∈ l, okRat r = true) : szJ (l.map ratTB) spB ≤ 1604 := by
  have h1 := szJ_le (ws := l.map ratTB) (sep := spB) (b := 400) fun w hw => by
    obtain ⟨k, hk, rfl⟩ := List.mem_map.1 hw
    exact ratTB_size (h k hk)
  have e : spB.size = 1 := rfl
  rw [List.length_map, e] at h1
  have := Nat.mul_le_mul_left (1 + 400) hl
  omega
theorem take_ratT {l : List Rt} {i : Nat} (h : i < l.length) : (l.take i).map ratTB ++ [ratTB (l.getD i rt0)] = (l.take (i + 1)).map ratTB := by
  rw [List.take_add_one, List.getElem?_eq_getElem h, List.map_append, List.getD, List.getElem?_eq_getElem h]; rfl
theorem vecTB_size {l : List Rt} (h : okVec l = true) : (vecTB l).size ≤ 1604 := by
  obtain ⟨h1, h2⟩ := okVec_parts h
  exact Nat.le_trans (joinB_size _ _) (szJ_rats h1 h2)
instance (l : List Rt) : Con CC 34 [.d (.sl (l.map encR))] (okVec l = true) (.d (.s (vecTB l))) := by
  constructor; intro ho
  obtain ⟨hl, hk⟩ := okVec_parts ho
  have hz := szJ_rats hl hk
  refine Den.pureI Tryz.func34 rfl 1 [.tmp 2] (by kernel_rfl) rfl rfl (by simp only [initE_nil, initE_cons, Nat.reduceAdd]; exact rfl) ?_
  repeat' first | ((with_reducible first | refine wC ?_ | refine wC0 ?_); (first | with_reducible refine pN ?_ rfl ?_ | (refine pcDn ?_; first | with_reducible refine pN ?_ rfl ?_))) | (with_reducible refine nx ?_; simp -implicitDefEqProofs (disch := omega) only [go_sem]) | (with_reducible show Wp _ _ _ _ _ _; first | refine rR ?_ | refine Wp.skip ?_ | refine Wp.ret ?_ | refine Wp.exit ?_ | refine rD ?_ | refine Wp.label ?_ | refine wS fun K hK => ?_ | refine wB fun K hK => ?_ | refine wE ?_) | (with_reducible show _ ∧ _; (first | refine an ?_ | refine And.intro ?_ ?_)) | (with_reducible show bcase _ _ _; first | refine bcaseT ?_ | refine bcaseF ?_ | (refine bcase_s ?_ ?_ <;> intro h <;> (first | subst h | (try simp only [FX, LX] at h)))) | (with_reducible show gcase _ _ _ _; first | refine gcaseTT ?_ | refine gcaseTF ?_ | refine gcaseFT ?_ | refine gcaseFF ?_ | refine gcaseU ?_ | ((first | refine wGt ?_ ?_ | refine wGf ?_ ?_) <;> intro h <;> (first | subst h | (simp only [h]; (try simp only [FX, LX] at h))))) | ((with_reducible refine wCq ?_); (first | with_reducible refine pQ ?_ rfl (by first | exact .inl rfl | exact .inr rfl) ?_ | (refine pcDQn ?_; first | with_reducible refine pQ ?_ rfl (by first | exact .inl rfl | exact .inr rfl) ?_))) | (with_reducible first | refine wG ?_ | refine wGq ?_ | refine r1_append ?_ | refine nilB_pos (by omega) ?_ | refine nilB_i fun b hb => ?_) | (with_reducible refine Imp.out ‹Imp _ _› ?_; (try simp only [TX, Nat.reduceBEq])) | assumption | omega | exact trivial | (simp only [LX]; omega)
  refine Wp.loopR (fun x : Nat × List ByteArray => ⟨[(0, .d (.sl (l.map encR))), (3, .msl 0 0 x.2.length), (4, .d (.i x.1))], [.arr 1 (x.2.map .s) false]⟩) (fun x => l.length - x.1) (fun x => x.1 ≤ l.length ∧ x.2 = (l.take x.1).map ratTB) (0, []) (Weak.low (by simp -implicitDefEqProofs (disch := omega) only [go_sem, sub_nil, sub_cons, LX]; try ((repeat' refine And.intro ?_ ?_) <;> first | rfl | trivial | (congr 3; omega) | (congr 1; omega)))) ⟨by simp, rfl⟩ ?_
  rintro ⟨i, ws⟩ ⟨hi, hw⟩ K hK
  simp only at hi hw ⊢
  have hlt : ws.length = i := by rw [hw, List.length_map, List.length_take]; omega
  by_cases hil : i < l.length
  · have e := take_ratT hil
    have hki := hk _ (getD_mem rt0 hil)
    repeat' first | ((with_reducible first | refine wC ?_ | refine wC0 ?_); (first | with_reducible refine pN ?_ rfl ?_ | (refine pcDn ?_; first | with_reducible refine pN ?_ rfl ?_))) | (with_reducible refine nx ?_; simp -implicitDefEqProofs (disch := omega) only [go_sem]) | (with_reducible show Wp _ _ _ _ _ _; first | refine rR ?_ | refine Wp.skip ?_ | refine Wp.ret ?_ | refine Wp.exit ?_ | refine rD ?_ | refine Wp.label ?_ | refine wS fun K hK => ?_ | refine wB fun K hK => ?_ | refine wE ?_) | (with_reducible show _ ∧ _; (first | refine an ?_ | refine And.intro ?_ ?_)) | (with_reducible show bcase _ _ _; first | refine bcaseT ?_ | refine bcaseF ?_ | (refine bcase_s ?_ ?_ <;> intro h <;> (first | subst h | (try simp only [FX, LX] at h)))) | (with_reducible show gcase _ _ _ _; first | refine gcaseTT ?_ | refine gcaseTF ?_ | refine gcaseFT ?_ | refine gcaseFF ?_ | refine gcaseU ?_ | ((first | refine wGt ?_ ?_ | refine wGf ?_ ?_) <;> intro h <;> (first | subst h | (simp only [h]; (try simp only [FX, LX] at h))))) | ((with_reducible refine wCq ?_); (first | with_reducible refine pQ ?_ rfl (by first | exact .inl rfl | exact .inr rfl) ?_ | (refine pcDQn ?_; first | with_reducible refine pQ ?_ rfl (by first | exact .inl rfl | exact .inr rfl) ?_))) | (with_reducible first | refine wG ?_ | refine wGq ?_ | refine r1_append ?_ | refine nilB_pos (by omega) ?_ | refine nilB_i fun b hb => ?_) | (with_reducible refine Imp.out ‹Imp _ _› ?_; (try simp only [TX, Nat.reduceBEq])) | assumption | omega | exact trivial | (simp only [LX]; omega)
    exact ⟨(i + 1, ws ++ [ratTB (l.getD i rt0)]), by simp only; omega, ⟨by simp only; omega, by rw [hw, e]⟩, (Weak.cut (by simp -implicitDefEqProofs (disch := omega) only [go_sem, sub_nil, sub_cons, LX]; try ((repeat' refine And.intro ?_ ?_) <;> first | rfl | trivial | (congr 3; omega) | (congr 1; omega))) rfl (by simp) rfl rfl)⟩
  · obtain rfl : i = l.length := by omega
    rw [List.take_length] at hw
    have hz2 : szJ ws spB ≤ 140737488355328 := by rw [hw]; omega
    repeat' first | ((with_reducible first | refine wC ?_ | refine wC0 ?_); (first | with_reducible refine pN ?_ rfl ?_ | (refine pcDn ?_; first | with_reducible refine pN ?_ rfl ?_))) | (with_reducible refine nx ?_; simp -implicitDefEqProofs (disch := omega) only [go_sem]) | (with_reducible show Wp _ _ _ _ _ _; first | refine rR ?_ | refine Wp.skip ?_ | refine Wp.ret ?_ | refine Wp.exit ?_ | refine rD ?_ | refine Wp.label ?_ | refine wS fun K hK => ?_ | refine wB fun K hK => ?_ | refine wE ?_) | (with_reducible show _ ∧ _; (first | refine an ?_ | refine And.intro ?_ ?_)) | (with_reducible show bcase _ _ _; first | refine bcaseT ?_ | refine bcaseF ?_ | (refine bcase_s ?_ ?_ <;> intro h <;> (first | subst h | (try simp only [FX, LX] at h)))) | (with_reducible show gcase _ _ _ _; first | refine gcaseTT ?_ | refine gcaseTF ?_ | refine gcaseFT ?_ | refine gcaseFF ?_ | refine gcaseU ?_ | ((first | refine wGt ?_ ?_ | refine wGf ?_ ?_) <;> intro h <;> (first | subst h | (simp only [h]; (try simp only [FX, LX] at h))))) | ((with_reducible refine wCq ?_); (first | with_reducible refine pQ ?_ rfl (by first | exact .inl rfl | exact .inr rfl) ?_ | (refine pcDQn ?_; first | with_reducible refine pQ ?_ rfl (by first | exact .inl rfl | exact .inr rfl) ?_))) | (with_reducible first | refine wG ?_ | refine wGq ?_ | refine r1_append ?_ | refine nilB_pos (by omega) ?_ | refine nilB_i fun b hb => ?_) | (with_reducible refine Imp.out ‹Imp _ _› ?_; (try simp only [TX, Nat.reduceBEq])) | assumption | omega | exact trivial | (simp only [LX]; omega)
    rw [hw]; rfl
instance (l : List Rt) : Con CC 48 [.d (.sl (l.map encR))] (okVec l = true) (.d (.s (vecTB l))) := by
  constructor; intro ho
  obtain ⟨hl, hk⟩ := okVec_parts ho
  have hz := szJ_rats hl hk
  refine Den.pureI Tryz.func48 rfl 1 [.tmp 2] (by kernel_rfl) rfl rfl (by simp only [initE_nil, initE_cons, Nat.reduceAdd]; exact rfl) ?_
  repeat' first | ((with_reducible first | refine wC ?_ | refine wC0 ?_); (first | with_reducible refine pN ?_ rfl ?_ | (refine pcDn ?_; first | with_reducible refine pN ?_ rfl ?_))) | (with_reducible refine nx ?_; simp -implicitDefEqProofs (disch := omega) only [go_sem]) | (with_reducible show Wp _ _ _ _ _ _; first | refine rR ?_ | refine Wp.skip ?_ | refine Wp.ret ?_ | refine Wp.exit ?_ | refine rD ?_ | refine Wp.label ?_ | refine wS fun K hK => ?_ | refine wB fun K hK => ?_ | refine wE ?_) | (with_reducible show _ ∧ _; (first | refine an ?_ | refine And.intro ?_ ?_)) | (with_reducible show bcase _ _ _; first | refine bcaseT ?_ | refine bcaseF ?_ | (refine bcase_s ?_ ?_ <;> intro h <;> (first | subst h | (try simp only [FX, LX] at h)))) | (with_reducible show gcase _ _ _ _; first | refine gcaseTT ?_ | refine gcaseTF ?_ | refine gcaseFT ?_ | refine gcaseFF ?_ | refine gcaseU ?_ | ((first | refine wGt ?_ ?_ | refine wGf ?_ ?_) <;> intro h <;> (first | subst h | (simp only [h]; (try simp only [FX, LX] at h))))) | ((with_reducible refine wCq ?_); (first | with_reducible refine pQ ?_ rfl (by first | exact .inl rfl | exact .inr rfl) ?_ | (refine pcDQn ?_; first | with_reducible refine pQ ?_ rfl (by first | exact .inl rfl | exact .inr rfl) ?_))) | (with_reducible first | refine wG ?_ | refine wGq ?_ | refine r1_append ?_ | refine nilB_pos (by omega) ?_ | refine nilB_i fun b hb => ?_) | (with_reducible refine Imp.out ‹Imp _ _› ?_; (try simp only [TX, Nat.reduceBEq])) | assumption | omega | exact trivial | (simp only [LX]; omega)
  refine Wp.loopR (fun x : Nat × List ByteArray => ⟨[(3, .msl 0 0 x.2.length), (7, .d (.sl (l.map encR))), (8, .d (.i l.length)), (9, .d (.i x.1))], [.arr 1 (x.2.map .s) false]⟩) (fun x => l.length - x.1) (fun x => x.1 ≤ l.length ∧ x.2 = (l.take x.1).map ratTB) (0, []) (Weak.low (by simp -implicitDefEqProofs (disch := omega) only [go_sem, sub_nil, sub_cons, LX]; try ((repeat' refine And.intro ?_ ?_) <;> first | rfl | trivial | (congr 3; omega) | (congr 1; omega)))) ⟨by simp, rfl⟩ ?_
  rintro ⟨i, ws⟩ ⟨hi, hw⟩ K hK
  simp only at hi hw ⊢
  have hlt : ws.length = i := by rw [hw, List.length_map, List.length_take]; omega
  by_cases hil : i < l.length
  · have e := take_ratT hil
    have hki := hk _ (getD_mem rt0 hil)
    repeat' first | ((with_reducible first | refine wC ?_ | refine wC0 ?_); (first | with_reducible refine pN ?_ rfl ?_ | (refine pcDn ?_; first | with_reducible refine pN ?_ rfl ?_))) | (with_reducible refine nx ?_; simp -implicitDefEqProofs (disch := omega) only [go_sem]) | (with_reducible show Wp _ _ _ _ _ _; first | refine rR ?_ | refine Wp.skip ?_ | refine Wp.ret ?_ | refine Wp.exit ?_ | refine rD ?_ | refine Wp.label ?_ | refine wS fun K hK => ?_ | refine wB fun K hK => ?_ | refine wE ?_) | (with_reducible show _ ∧ _; (first | refine an ?_ | refine And.intro ?_ ?_)) | (with_reducible show bcase _ _ _; first | refine bcaseT ?_ | refine bcaseF ?_ | (refine bcase_s ?_ ?_ <;> intro h <;> (first | subst h | (try simp only [FX, LX] at h)))) | (with_reducible show gcase _ _ _ _; first | refine gcaseTT ?_ | refine gcaseTF ?_ | refine gcaseFT ?_ | refine gcaseFF ?_ | refine gcaseU ?_ | ((first | refine wGt ?_ ?_ | refine wGf ?_ ?_) <;> intro h <;> (first | subst h | (simp only [h]; (try simp only [FX, LX] at h))))) | ((with_reducible refine wCq ?_); (first | with_reducible refine pQ ?_ rfl (by first | exact .inl rfl | exact .inr rfl) ?_ | (refine pcDQn ?_; first | with_reducible refine pQ ?_ rfl (by first | exact .inl rfl | exact .inr rfl) ?_))) | (with_reducible first | refine wG ?_ | refine wGq ?_ | refine r1_append ?_ | refine nilB_pos (by omega) ?_ | refine nilB_i fun b hb => ?_) | (with_reducible refine Imp.out ‹Imp _ _› ?_; (try simp only [TX, Nat.reduceBEq])) | assumption | omega | exact trivial | (simp only [LX]; omega)
    exact ⟨(i + 1, ws ++ [ratTB (l.getD i rt0)]), by simp only; omega, ⟨by simp only; omega, by rw [hw, e]⟩, (Weak.cut (by simp -implicitDefEqProofs (disch := omega) only [go_sem, sub_nil, sub_cons, LX]; try ((repeat' refine And.intro ?_ ?_) <;> first | rfl | trivial | (congr 3; omega) | (congr 1; omega))) rfl (by simp) rfl rfl)⟩
  · obtain rfl : i = l.length := by omega
    rw [List.take_length] at hw
    have hz2 : szJ ws spB ≤ 140737488355328 := by rw [hw]; omega
    repeat' first | ((with_reducible first | refine wC ?_ | refine wC0 ?_); (first | with_reducible refine pN ?_ rfl ?_ | (refine pcDn ?_; first | with_reducible refine pN ?_ rfl ?_))) | (with_reducible refine nx ?_; simp -implicitDefEqProofs (disch := omega) only [go_sem]) | (with_reducible show Wp _ _ _ _ _ _; first | refine rR ?_ | refine Wp.skip ?_ | refine Wp.ret ?_ | refine Wp.exit ?_ | refine rD ?_ | refine Wp.label ?_ | refine wS fun K hK => ?_ | refine wB fun K hK => ?_ | refine wE ?_) | (with_reducible show _ ∧ _; (first | refine an ?_ | refine And.intro ?_ ?_)) | (with_reducible show bcase _ _ _; first | refine bcaseT ?_ | refine bcaseF ?_ | (refine bcase_s ?_ ?_ <;> intro h <;> (first | subst h | (try simp only [FX, LX] at h)))) | (with_reducible show gcase _ _ _ _; first | refine gcaseTT ?_ | refine gcaseTF ?_ | refine gcaseFT ?_ | refine gcaseFF ?_ | refine gcaseU ?_ | ((first | refine wGt ?_ ?_ | refine wGf ?_ ?_) <;> intro h <;> (first | subst h | (simp only [h]; (try simp only [FX, LX] at h))))) | ((with_reducible refine wCq ?_); (first | with_reducible refine pQ ?_ rfl (by first | exact .inl rfl | exact .inr rfl) ?_ | (refine pcDQn ?_; first | with_reducible refine pQ ?_ rfl (by first | exact .inl rfl | exact .inr rfl) ?_))) | (with_reducible first | refine wG ?_ | refine wGq ?_ | refine r1_append ?_ | refine nilB_pos (by omega) ?_ | refine nilB_i fun b hb => ?_) | (with_reducible refine Imp.out ‹Imp _ _› ?_; (try simp only [TX, Nat.reduceBEq])) | assumption | omega | exact trivial | (simp only [LX]; omega)
    rw [hw]; rfl
/-- A record's text. -/
def recTB (r : Rc) : ByteArray := ByteArray.mk #[97, 116, 32] ++ digB r.iter.toNat ++ ByteArray.mk #[32, 104, 97, 108, 118, 101, 100, 32] ++ digB r.count.toNat ++ ByteArray.mk #[32, 118, 97, 108, 117, 101, 32] ++ ratTB r.f ++ ByteArray.mk #[32, 112, 111, 105, 110, 116, 32] ++ vecTB r.x
theorem okRc_parts {r : Rc} (h : okRc r = true) : (∃ m n : Nat, r.iter = m ∧ r.count = n ∧ m ≤ 6 ∧ n ≤ 30) ∧ okVec r.x = true ∧ okRat r.f = true := by
  unfold okRc at h
  simp only [Bool.and_eq_true, decide_eq_true_eq] at h
  exact ⟨⟨r.iter.toNat, r.count.toNat, by omega, by omega, by omega, by omega⟩, h.1.2, h.2⟩
end Go.PL
