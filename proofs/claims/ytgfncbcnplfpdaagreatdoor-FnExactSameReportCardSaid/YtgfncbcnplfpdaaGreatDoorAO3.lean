/- A plain machine, sound for the given model, and contracts of functions over it, part 33: AO3. Nothing is assumed. -/
import Derived.Test.YtgfncbcnplfpdaaGreatDoorAO2
set_option linter.unusedSimpArgs false
set_option linter.unusedVariables false
set_option linter.unusedSectionVars false
/- AO3 -/
namespace Go.PL
open Go Go.Proofs
set_option maxRecDepth 10000
set_option linter.unusedSimpArgs false
set_option linter.unusedVariables false
abbrev rt0 : Rt := ⟨false, [], []⟩
abbrev spB : ByteArray := ByteArray.mk #[32]
/-- A vector's text. -/
def vecTB (l : List Rt) : ByteArray := joinB (l.map ratTB) spB
theorem okVec_parts {l : List Rt} (h : okVec l = true) : l.length ≤ 4 ∧ ∀ r ∈ l, okRat r = true := by
  unfold okVec at h
  rw [decide_eq_true_eq] at h
  refine ⟨h.2.1, fun r hr => ?_⟩
  obtain ⟨i, hi, rfl⟩ := List.getElem_of_mem hr
  have := h.2.2 i hi
  simpa only [List.getD, List.getElem?_eq_getElem hi, Option.getD_some] using this
theorem szJ_rats {l : List Rt} (hl : l.length ≤ 4) (h : ∀ r ∈ l, okRat r = true) : szJ (l.map ratTB) spB ≤ 1604 := by
  have h1 := szJ_le (ws := l.map ratTB) (sep := spB) (b := 400) fun w hw => by
    obtain ⟨k, hk, rfl⟩ := List.mem_map.1 hw
    exact ratTB_size (h k hk)
  have e : spB.size = 1 := rfl
  rw [List.length_map, e] at h1
  have := Nat.mul_le_mul_left (1 + 400) hl
  omega
theorem take_ratT {l : List Rt} {i : Nat} (h : i < l.length) : (l.take i).map ratTB ++ [ratTB (l.getD i rt0)] = (l.take (i + 1)).map ratTB := by
  rw [List.take_add_one, List.getElem?_eq_getElem h, List.map_append, List.getD, List.getElem?_eq_getElem h]; rfl
theorem vecTB_size {l : List Rt} (h : okVec l = true) : (vecTB l).size ≤ 1604 := by
  obtain ⟨h1, h2⟩ := okVec_parts h
  exact Nat.le_trans (joinB_size _ _) (szJ_rats h1 h2)
instance (l : List Rt) : Con CC 39 [.d (.sl (l.map encR))] (okVec l = true) (.d (.s (vecTB l))) := by
  constructor; intro ho
  obtain ⟨hl, hk⟩ := okVec_parts ho
  have hz := szJ_rats hl hk
  refine Den.pureI Tryz.func39 rfl 1 [.tmp 2] (by kernel_rfl) rfl rfl (by simp only [initE_nil, initE_cons, Nat.reduceAdd]; exact rfl) ?_
  repeat' first | ((with_reducible first | refine wC ?_ | refine wC0 ?_); (first | with_reducible refine pN ?_ rfl ?_ | (refine pcDn ?_; first | with_reducible refine pN ?_ rfl ?_))) | (with_reducible refine nx ?_; simp -implicitDefEqProofs (disch := omega) only [go_sem]) | (with_reducible show Wp _ _ _ _ _ _; first | refine rR ?_ | refine Wp.skip ?_ | refine Wp.ret ?_ | refine Wp.exit ?_ | refine rD ?_ | refine Wp.label ?_ | refine wS fun K hK => ?_ | refine wB fun K hK => ?_ | refine wE ?_) | (with_reducible show _ ∧ _; (first | refine an ?_ | refine And.intro ?_ ?_)) | (with_reducible show bcase _ _ _; first | refine bcaseT ?_ | refine bcaseF ?_ | (refine bcase_s ?_ ?_ <;> intro h <;> (first | subst h | (try simp only [FX, LX] at h)))) | (with_reducible show gcase _ _ _ _; first | refine gcaseTT ?_ | refine gcaseTF ?_ | refine gcaseFT ?_ | refine gcaseFF ?_ | refine gcaseU ?_ | ((first | refine wGt ?_ ?_ | refine wGf ?_ ?_) <;> intro h <;> (first | subst h | (simp only [h]; (try simp only [FX, LX] at h))))) | ((with_reducible refine wCq ?_); (first | with_reducible refine pQ ?_ rfl (by first | exact .inl rfl | exact .inr rfl) ?_ | (refine pcDQn ?_; first | with_reducible refine pQ ?_ rfl (by first | exact .inl rfl | exact .inr rfl) ?_))) | (with_reducible first | refine wG ?_ | refine wGq ?_ | refine r1_append ?_ | refine nilB_pos (by omega) ?_ | refine nilB_i fun b hb => ?_) | (with_reducible refine Imp.out ‹Imp _ _› ?_; (try simp only [TX, Nat.reduceBEq])) | assumption | omega | exact trivial | (simp only [LX]; omega)
  refine Wp.loopR (fun x : Nat × List ByteArray => ⟨[(3, .msl 0 0 x.2.length), (7, .d (.sl (l.map encR))), (8, .d (.i l.length)), (9, .d (.i x.1))], [.arr 1 (x.2.map .s) false]⟩) (fun x => l.length - x.1) (fun x => x.1 ≤ l.length ∧ x.2 = (l.take x.1).map ratTB) (0, []) (Weak.low (by simp -implicitDefEqProofs (disch := omega) only [go_sem, sub_nil, sub_cons, LX]; try ((repeat' refine And.intro ?_ ?_) <;> first | rfl | trivial | (congr 3; omega) | (congr 1; omega)))) ⟨by simp, rfl⟩ ?_
  rintro ⟨i, ws⟩ ⟨hi, hw⟩ K hK
  simp only at hi hw ⊢
  have hlt : ws.length = i := by rw [hw, List.length_map, List.length_take]; omega
  by_cases hil : i < l.length
  · have e := take_ratT hil
    have hki := hk _ (getD_mem rt0 hil)
    repeat' first | ((with_reducible first | refine wC ?_ | refine wC0 ?_); (first | with_reducible refine pN ?_ rfl ?_ | (refine pcDn ?_; first | with_reducible refine pN ?_ rfl ?_))) | (with_reducible refine nx ?_; simp -implicitDefEqProofs (disch := omega) only [go_sem]) | (with_reducible show Wp _ _ _ _ _ _; first | refine rR ?_ | refine Wp.skip ?_ | refine Wp.ret ?_ | refine Wp.exit ?_ | refine rD ?_ | refine Wp.label ?_ | refine wS fun K hK => ?_ | refine wB fun K hK => ?_ | refine wE ?_) | (with_reducible show _ ∧ _; (first | refine an ?_ | refine And.intro ?_ ?_)) | (with_reducible show bcase _ _ _; first | refine bcaseT ?_ | refine bcaseF ?_ | (refine bcase_s ?_ ?_ <;> intro h <;> (first | subst h | (try simp only [FX, LX] at h)))) | (with_reducible show gcase _ _ _ _; first | refine gcaseTT ?_ | refine gcaseTF ?_ | refine gcaseFT ?_ | refine gcaseFF ?_ | refine gcaseU ?_ | ((first | refine wGt ?_ ?_ | refine wGf ?_ ?_) <;> intro h <;> (first | subst h | (simp only [h]; (try simp only [FX, LX] at h))))) | ((with_reducible refine wCq ?_); (first | with_reducible refine pQ ?_ rfl (by first | exact .inl rfl | exact .inr rfl) ?_ | (refine pcDQn ?_; first | with_reducible refine pQ ?_ rfl (by first | exact .inl rfl | exact .inr rfl) ?_))) | (with_reducible first | refine wG ?_ | refine wGq ?_ | refine r1_append ?_ | refine nilB_pos (by omega) ?_ | refine nilB_i fun b hb => ?_) | (with_reducible refine Imp.out ‹Imp _ _› ?_; (try simp only [TX, Nat.reduceBEq])) | assumption | omega | exact trivial | (simp only [LX]; omega)
    exact ⟨(i + 1, ws ++ [ratTB (l.getD i rt0)]), by simp only; omega, ⟨by simp only; omega, by rw [hw, e]⟩, (Weak.cut (by simp -implicitDefEqProofs (disch := omega) only [go_sem, sub_nil, sub_cons, LX]; try ((repeat' refine And.intro ?_ ?_) <;> first | rfl | trivial | (congr 3; omega) | (congr 1; omega))) rfl (by simp) rfl rfl)⟩
  · obtain rfl : i = l.length := by omega
    rw [List.take_length] at hw
    have hz2 : szJ ws spB ≤ 140737488355328 := by rw [hw]; omega
    repeat' first | ((with_reducible first | refine wC ?_ | refine wC0 ?_); (first | with_reducible refine pN ?_ rfl ?_ | (refine pcDn ?_; first | with_reducible refine pN ?_ rfl ?_))) | (with_reducible refine nx ?_; simp -implicitDefEqProofs (disch := omega) only [go_sem]) | (with_reducible show Wp _ _ _ _ _ _; first | refine rR ?_ | refine Wp.skip ?_ | refine Wp.ret ?_ | refine Wp.exit ?_ | refine rD ?_ | refine Wp.label ?_ | refine wS fun K hK => ?_ | refine wB fun K hK => ?_ | refine wE ?_) | (with_reducible show _ ∧ _; (first | refine an ?_ | refine And.intro ?_ ?_)) | (with_reducible show bcase _ _ _; first | refine bcaseT ?_ | refine bcaseF ?_ | (refine bcase_s ?_ ?_ <;> intro h <;> (first | subst h | (try simp only [FX, LX] at h)))) | (with_reducible show gcase _ _ _ _; first | refine gcaseTT ?_ | refine gcaseTF ?_ | refine gcaseFT ?_ | refine gcaseFF ?_ | refine gcaseU ?_ | ((first | refine wGt ?_ ?_ | refine wGf ?_ ?_) <;> intro h <;> (first | subst h | (simp only [h]; (try simp only [FX, LX] at h))))) | ((with_reducible refine wCq ?_); (first | with_reducible refine pQ ?_ rfl (by first | exact .inl rfl | exact .inr rfl) ?_ | (refine pcDQn ?_; first | with_reducible refine pQ ?_ rfl (by first | exact .inl rfl | exact .inr rfl) ?_))) | (with_reducible first | refine wG ?_ | refine wGq ?_ | refine r1_append ?_ | refine nilB_pos (by omega) ?_ | refine nilB_i fun b hb => ?_) | (with_reducible refine Imp.out ‹Imp _ _› ?_; (try simp only [TX, Nat.reduceBEq])) | assumption | omega | exact trivial | (simp only [LX]; omega)
    rw [hw]; rfl
/-- A record's text. -/
def recTB (r : Rc) : ByteArray := ByteArray.mk #[97, 116, 32] ++ digB r.iter.toNat ++ ByteArray.mk #[32, 104, 97, 108, 118, 101, 100, 32] ++ digB r.count.toNat ++ ByteArray.mk #[32, 118, 97, 108, 117, 101, 32] ++ ratTB r.f ++ ByteArray.mk #[32, 112, 111, 105, 110, 116, 32] ++ vecTB r.x
theorem okRc_parts {r : Rc} (h : okRc r = true) : (∃ m n : Nat, r.iter = m ∧ r.count = n ∧ m ≤ 6 ∧ n ≤ 30) ∧ okVec r.x = true ∧ okRat r.f = true := by
  unfold okRc at h
  simp only [Bool.and_eq_true, decide_eq_true_eq] at h
  exact ⟨⟨r.iter.toNat, r.count.toNat, by omega, by omega, by omega, by omega⟩, h.1.2, h.2⟩
instance (a b : Int) (x : List Rt) (g : Bool) (u v : List Int) : Con CC 25 [.d (.agg [.i a, .i b, .sl (x.map encR), .b g, .sl (u.map .i), .sl (v.map .i)])] (okRc ⟨a, b, x, ⟨g, u, v⟩⟩ = true) (.d (.s (recTB ⟨a, b, x, ⟨g, u, v⟩⟩))) := by
  constructor; intro ho
  obtain ⟨⟨m, n, hm, hn, hm6, hn30⟩, hx, hf⟩ := okRc_parts ho
  simp only at hm hn hx hf
  subst hm hn
  have s1 := digB_size m
  have s2 := digB_size n
  have s3 := ratTB_size hf
  have s4 := vecTB_size hx
  have e1 : (ByteArray.mk #[97, 116, 32]).size = 3 := rfl
  have e2 : (ByteArray.mk #[32, 104, 97, 108, 118, 101, 100, 32]).size = 8 := rfl
  have e3 : (ByteArray.mk #[32, 118, 97, 108, 117, 101, 32]).size = 7 := rfl
  have e4 : (ByteArray.mk #[32, 112, 111, 105, 110, 116, 32]).size = 7 := rfl
  have i1 := itoaB_nat m
  have i2 := itoaB_nat n
  refine Den.pureI Tryz.func25 rfl 1 [.tmp 2] (by kernel_rfl) rfl rfl (by simp only [initE_nil, initE_cons, Nat.reduceAdd]; exact rfl) ?_
  repeat' first | ((with_reducible first | refine wC ?_ | refine wC0 ?_); (first | with_reducible refine pN ?_ rfl ?_ | (refine pcDn ?_; first | with_reducible refine pN ?_ rfl ?_))) | (with_reducible refine nx ?_; simp -implicitDefEqProofs (disch := omega) only [go_sem, e1, e2, e3, e4, i1, i2, ByteArray.size_append]) | (with_reducible show Wp _ _ _ _ _ _; first | refine rR ?_ | refine Wp.skip ?_ | refine Wp.ret ?_ | refine Wp.exit ?_ | refine Wp.drawR (by decide +kernel) ?_ | refine Wp.drawSR [] [false, false, false, false, false, false, false, false, false, false, false, false, false, false, false, false, false, false, false, false] .done (by decide +kernel) ?_ | refine Wp.label ?_ | refine wS fun K hK => ?_ | refine wB fun K hK => ?_ | refine wE ?_) | (with_reducible show _ ∧ _; (first | refine an ?_ | refine And.intro ?_ ?_)) | (with_reducible show bcase _ _ _; first | refine bcaseT ?_ | refine bcaseF ?_ | (refine bcase_s ?_ ?_ <;> intro h <;> (first | subst h | (try simp only [FX, LX, e1, e2, e3, e4, i1, i2, ByteArray.size_append] at h)))) | (with_reducible show gcase _ _ _ _; first | refine gcaseTT ?_ | refine gcaseTF ?_ | refine gcaseFT ?_ | refine gcaseFF ?_ | refine gcaseU ?_ | ((first | refine wGt ?_ ?_ | refine wGf ?_ ?_) <;> intro h <;> (first | subst h | (simp only [h]; (try simp only [FX, LX, e1, e2, e3, e4, i1, i2, ByteArray.size_append] at h))))) | ((with_reducible refine wCq ?_); (first | with_reducible refine pQ ?_ rfl (by first | exact .inl rfl | exact .inr rfl) ?_ | (refine pcDQn ?_; first | with_reducible refine pQ ?_ rfl (by first | exact .inl rfl | exact .inr rfl) ?_))) | (with_reducible first | refine wG ?_ | refine wGq ?_ | refine r1_append ?_ | refine nilB_pos (by omega) ?_ | refine nilB_i fun b hb => ?_ | refine wGqA ?_ | refine wGl ?_ | refine wGt2 ?_) | ((with_reducible first | show qA _ _ _ _ _ _ | show lateR _ _ _ _ _ _ | show trR _ _ _ _ _ _); simp -implicitDefEqProofs (disch := omega) only [go_sem, e1, e2, e3, e4, i1, i2, ByteArray.size_append]) | (with_reducible refine Imp.out ‹Imp _ _› ?_; (try simp only [TX, Nat.reduceBEq])) | assumption | omega | exact trivial | (simp only [LX]; omega)
  rfl
end Go.PL
