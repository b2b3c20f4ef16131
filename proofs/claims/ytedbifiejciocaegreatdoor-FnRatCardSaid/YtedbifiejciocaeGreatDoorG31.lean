/- A plain machine, sound for the given model, and contracts of functions over it, part 31: RS PlNew. Nothing is assumed. -/
import Derived.Test.YtedbifiejciocaeGreatDoorG30
set_option linter.unusedSimpArgs false
set_option linter.unusedVariables false
set_option linter.unusedSectionVars false
/- RS -/
namespace Go.PL
open Go Go.Proofs
set_option maxRecDepth 10000
set_option maxHeartbeats 4000000
set_option linter.unusedSimpArgs false
set_option linter.unusedVariables false
theorem s45 : (⟨#[45]⟩ : ByteArray) = strT [45] := rfl
theorem s47 : (⟨#[47]⟩ : ByteArray) = strT [47] := rfl
theorem strT_inj {a b : List UInt8} : strT a = strT b ↔ a = b := by
  constructor
  · intro h
    have := congrArg (fun t : ByteArray => t.data.toList) h
    simpa [strT] using this
  · rintro rfl; rfl
instance (l : List UInt8) : Con CC 82 [.d (.s (strT l)), .d (.s ⟨#[45]⟩)] (l.length ≤ 1048576) (.d (.b (ngT l))) := by
  constructor; intro hl
  have hsz : (strT l).size = l.length := strT_size
  have h1 : (⟨#[45]⟩ : ByteArray).size = 1 := rfl
  cases l with
  | nil =>
    refine Den.pureI Tryz.func82 rfl 2 [.tmp 4] (by kernel_rfl) rfl rfl (by simp only [initE_nil, initE_cons, Nat.reduceAdd]; exact rfl) ?_
    repeat' first | (with_reducible first | refine nx' ?_ (by simp -implicitDefEqProofs (disch := omega) only [go_sem, hsz, h1]; exact rfl) | refine n0 ?_ | refine rD ?_ | refine n1 ?_ | refine nilB_i fun b hb => ?_ | refine nP ?_ ?_ | refine nS fun K hK => ?_ | (refine n2 ?_ ?_ <;> intro h <;> first | subst (h : _ = true) | subst (h : _ = false) | (simp only [FX, LX, hsz, h1] at h) | skip) | refine And.intro ?_ ?_ | refine nK ‹Imp _ _› ?_) | exact nl | fail
    all_goals first | rfl | (exfalso; simp at *; done) | (exfalso; omega)
  | cons c r =>
    have he : (strT (c :: r)).extract 0 1 = strT [c] := by rw [strT_ext]; rfl
    have h2 : ((strT [c]).toList == (⟨#[45]⟩ : ByteArray).toList) = ngT (c :: r) := by
      rw [tl_beq, s45]; unfold ngT
      rw [Bool.eq_iff_iff, decide_eq_true_eq, decide_eq_true_eq, strT_inj]
      simp
    refine Den.pureI Tryz.func82 rfl 2 [.tmp 4] (by kernel_rfl) rfl rfl (by simp only [initE_nil, initE_cons, Nat.reduceAdd]; exact rfl) ?_
    repeat' first | (with_reducible first | refine nx' ?_ (by simp -implicitDefEqProofs (disch := omega) only [go_sem, hsz, h1, he, h2]; exact rfl) | refine n0 ?_ | refine rD ?_ | refine n1 ?_ | refine nilB_i fun b hb => ?_ | refine nP ?_ ?_ | refine nS fun K hK => ?_ | (refine n2 ?_ ?_ <;> intro h <;> first | subst (h : _ = true) | subst (h : _ = false) | (simp only [FX, LX, hsz, h1, he, h2] at h) | skip) | refine And.intro ?_ ?_ | refine nK ‹Imp _ _› ?_) | exact nl | fail
    all_goals first | rfl | (exfalso; simp at *; omega)
instance (l : List UInt8) : Con CC 61 [.d (.s (strT l)), .d (.s ⟨#[45]⟩)] (l.length ≤ 1048576) (.tup [.d (.s (strT (bdT l))), .d (.b (ngT l))]) := by
  constructor; intro hl
  have hsz : (strT l).size = l.length := strT_size
  have h1 : (⟨#[45]⟩ : ByteArray).size = 1 := rfl
  cases hn : ngT l with
  | false =>
    have hb : bdT l = l := by unfold bdT; rw [hn]; rfl
    refine Den.pureI Tryz.func61 rfl 2 [.tmp 4, .tmp 5] (by kernel_rfl) rfl rfl (by simp only [initE_nil, initE_cons, Nat.reduceAdd]; exact rfl) ?_
    repeat' first | (with_reducible first | refine nx' ?_ (by simp -implicitDefEqProofs (disch := omega) only [go_sem, hsz, h1, hn]; exact rfl) | refine n0 ?_ | refine rD ?_ | refine n1 ?_ | refine nilB_i fun b hb => ?_ | refine nP ?_ ?_ | refine nS fun K hK => ?_ | (refine n2 ?_ ?_ <;> intro h <;> first | subst (h : _ = true) | subst (h : _ = false) | (simp only [FX, LX, hsz, h1, hn] at h) | skip) | refine And.intro ?_ ?_ | refine nK ‹Imp _ _› ?_) | exact nl | fail
    all_goals rw [hb]
  | true =>
    have hb : bdT l = l.drop 1 := by unfold bdT; rw [hn]; rfl
    have h0 : 1 ≤ l.length := by
      cases l with
      | nil => unfold ngT at hn; simp at hn
      | cons _ _ => simp
    have hx : (strT l).extract 1 l.length = strT (bdT l) := by rw [hb, strT_ext, List.take_of_length_le (by rw [List.length_drop]; omega)]
    refine Den.pureI Tryz.func61 rfl 2 [.tmp 4, .tmp 5] (by kernel_rfl) rfl rfl (by simp only [initE_nil, initE_cons, Nat.reduceAdd]; exact rfl) ?_
    repeat' first | (with_reducible first | refine nx' ?_ (by simp -implicitDefEqProofs (disch := omega) only [go_sem, hsz, h1, hn, hx]; exact rfl) | refine n0 ?_ | refine rD ?_ | refine n1 ?_ | refine nilB_i fun b hb => ?_ | refine nP ?_ ?_ | refine nS fun K hK => ?_ | (refine n2 ?_ ?_ <;> intro h <;> first | subst (h : _ = true) | subst (h : _ = false) | (simp only [FX, LX, hsz, h1, hn, hx] at h) | skip) | refine And.intro ?_ ?_ | refine nK ‹Imp _ _› ?_) | exact nl | fail
instance (l : List UInt8) : Con CC 39 [.d (.s (strT l)), .d (.s ⟨#[45]⟩)] (l.length ≤ 1048576) (.tup [.d (.s (strT (bdT l))), .d (.b (ngT l))]) := by
  constructor; intro hl
  refine Den.pureI Tryz.func39 rfl 2 [.tmp 4, .tmp 5] (by kernel_rfl) rfl rfl (by simp only [initE_nil, initE_cons, Nat.reduceAdd]; exact rfl) ?_
  repeat' first | (with_reducible first | refine nx' ?_ | refine n0 ?_ | refine rD ?_ | refine n1 ?_ | refine nilB_i fun b hb => ?_ | refine nP ?_ ?_ | refine nS fun K hK => ?_ | (refine n2 ?_ ?_ <;> intro h <;> first | subst (h : _ = true) | subst (h : _ = false) | skip) | refine And.intro ?_ ?_ | refine nK ‹Imp _ _› ?_) | exact nl | fail
/-- A text parted at the first stroke. -/
def cutA (l : List UInt8) : List UInt8 := l.takeWhile (fun c => c != 47)
def cutB (l : List UInt8) : List UInt8 := (l.dropWhile (fun c => c != 47)).drop 1
def cutH (l : List UInt8) : Bool := decide ((47 : UInt8) ∈ l)
theorem tw_all : ∀ {l : List UInt8}, (47 : UInt8) ∉ l → l.takeWhile (fun c => c != 47) = l ∧ l.dropWhile (fun c => c != 47) = []
  | [], _ => ⟨rfl, rfl⟩
  | c :: r, h => by
    have h1 : c ≠ 47 := fun e => h (by simp [e])
    obtain ⟨a, b⟩ := tw_all (l := r) fun e => h (by simp [e])
    constructor
    · rw [List.takeWhile_cons, if_pos (by simpa using h1), a]
    · rw [List.dropWhile_cons, if_pos (by simpa using h1), b]
theorem cut_no {l : List UInt8} (h : (47 : UInt8) ∉ l) : cutH l = false ∧ cutA l = l ∧ cutB l = [] := by
  refine ⟨decide_eq_false h, ?_, ?_⟩
  · unfold cutA; exact (tw_all h).1
  · unfold cutB; rw [(tw_all h).2]; rfl
theorem cut_yes {w r : List UInt8} (h : (47 : UInt8) ∉ w) : cutH (w ++ 47 :: r) = true ∧ cutA (w ++ 47 :: r) = w ∧ cutB (w ++ 47 :: r) = r := by
  have hw : ∀ x ∈ w, (x != 47) = true := fun x hx => by simp; rintro rfl; exact h hx
  refine ⟨decide_eq_true (by simp), ?_, ?_⟩
  · unfold cutA; rw [List.takeWhile_append_of_pos hw]; simp
  · unfold cutB; rw [List.dropWhile_append_of_pos hw]; simp
theorem idx_no {l : List UInt8} (h : (47 : UInt8) ∉ l) : Lib.indexByte l 47 = -1 := by
  rcases Int.lt_or_le (Lib.indexByte l 47) 0 with h1 | h1
  · have := Lib.indexByte_ge l 47; omega
  · obtain ⟨o, ho⟩ : ∃ o : Nat, Lib.indexByte l 47 = o := ⟨_, (Int.toNat_of_nonneg h1).symm⟩
    exact absurd (List.mem_of_getElem? (Lib.indexByte_some ho).1) h
theorem idx_yes {w r : List UInt8} (h : (47 : UInt8) ∉ w) : Lib.indexByte (w ++ 47 :: r) 47 = w.length := by
  have hg : (w ++ 47 :: r)[w.length]? = some 47 := by simp
  rcases Int.lt_or_le (Lib.indexByte (w ++ 47 :: r) 47) 0 with h1 | h1
  · have h2 := Lib.indexByte_ge (w ++ 47 :: r) 47
    exact absurd hg (Lib.indexByte_none (by omega) _)
  · obtain ⟨o, ho⟩ : ∃ o : Nat, Lib.indexByte (w ++ 47 :: r) 47 = o := ⟨_, (Int.toNat_of_nonneg h1).symm⟩
    obtain ⟨h2, h3⟩ := Lib.indexByte_some ho
    rw [ho]
    rcases Nat.lt_trichotomy o w.length with h4 | h4 | h4
    · rw [List.getElem?_append_left h4] at h2
      exact absurd (List.mem_of_getElem? h2) h
    · rw [h4]
    · exact absurd hg (h3 _ h4)
instance (l : List UInt8) : Con CC 83 [.d (.s (strT l)), .d (.s ⟨#[47]⟩)] (l.length ≤ 1048576) (.d (.i (Lib.indexByte l 47))) := by
  constructor; intro hl
  have hsz : (strT l).size = l.length := strT_size
  have h1 : (⟨#[47]⟩ : ByteArray).size = 1 := rfl
  have cI : CC 93 [.d (.s (strT l)), .d (.val (.int .u8 47))] [] (.d (.i (Lib.indexByte l 47))) [] :=
    Den.ext ⟨rfl, rfl, .inr (.inr (.inl ⟨rfl, strT l, 47, rfl, rfl⟩))⟩
  have h2 : (((⟨#[47]⟩ : ByteArray).data.toList.getD 0 0).toNat : Int) = 47 := rfl
  refine Den.pureI Tryz.func83 rfl 2 [.tmp 4] (by kernel_rfl) rfl rfl (by simp only [initE_nil, initE_cons, Nat.reduceAdd]; exact rfl) ?_
  repeat' first | (with_reducible first | refine nx' ?_ (by simp -implicitDefEqProofs (disch := omega) only [go_sem, hsz, h1, h2]; exact rfl) | refine n0 ?_ | refine rD ?_ | refine n1 ?_ | refine nilB_i fun b hb => ?_ | refine nPc (cI) ?_ | refine nP ?_ ?_ | refine nS fun K hK => ?_ | (refine n2 ?_ ?_ <;> intro h <;> first | subst (h : _ = true) | subst (h : _ = false) | (simp only [FX, LX, hsz, h1, h2] at h) | skip) | refine And.intro ?_ ?_ | refine nK ‹Imp _ _› ?_) | exact nl | fail
  all_goals
    rw [tl_beq, decide_eq_true_eq, s47, strT_inj] at h
    subst h; rfl
instance (l : List UInt8) : Con CC 62 [.d (.s (strT l)), .d (.s ⟨#[47]⟩)] (l.length ≤ 1048576) (.tup [.d (.s (strT (cutA l))), .d (.s (strT (cutB l))), .d (.b (cutH l))]) := by
  constructor; intro hl
  have hsz : (strT l).size = l.length := strT_size
  have h1 : (⟨#[47]⟩ : ByteArray).size = 1 := rfl
  by_cases h : (47 : UInt8) ∈ l
  · obtain ⟨w, r, rfl, hw⟩ := first_at h
    obtain ⟨e1, e2, e3⟩ := cut_yes (r := r) hw
    have hi := idx_yes (r := r) hw
    have hlen : (w ++ 47 :: r).length = w.length + 1 + r.length := by simp; omega
    have x1 : (strT (w ++ 47 :: r)).extract 0 w.length = strT w := by rw [strT_ext]; simp
    have x2 : (strT (w ++ 47 :: r)).extract (w.length + 1) (w.length + 1 + r.length) = strT r := by rw [strT_ext]; simp
    have x3 : ((w.length : Int) + ((1 : Nat) : Int)).toNat = w.length + 1 := by omega
    rw [e1, e2, e3]
    refine Den.pureI Tryz.func62 rfl 2 [.tmp 4, .tmp 5, .tmp 6] (by kernel_rfl) rfl rfl (by simp only [initE_nil, initE_cons, Nat.reduceAdd]; exact rfl) ?_
    repeat' first | (with_reducible first | refine nx' ?_ (by simp -implicitDefEqProofs (disch := omega) only [go_sem, hsz, h1, hi, hlen, x1, x2, x3]; exact rfl) | refine n0 ?_ | refine rD ?_ | refine n1 ?_ | refine nilB_i fun b hb => ?_ | refine nP ?_ ?_ | refine nS fun K hK => ?_ | (refine n2 ?_ ?_ <;> intro h <;> first | subst (h : _ = true) | subst (h : _ = false) | (simp only [FX, LX, hsz, h1, hi, hlen, x1, x2, x3] at h) | skip) | refine And.intro ?_ ?_ | refine nK ‹Imp _ _› ?_) | exact nl | fail
  · obtain ⟨e1, e2, e3⟩ := cut_no h
    have hi := idx_no h
    rw [e1, e2, e3]
    refine Den.pureI Tryz.func62 rfl 2 [.tmp 4, .tmp 5, .tmp 6] (by kernel_rfl) rfl rfl (by simp only [initE_nil, initE_cons, Nat.reduceAdd]; exact rfl) ?_
    repeat' first | (with_reducible first | refine nx' ?_ (by simp -implicitDefEqProofs (disch := omega) only [go_sem, hsz, h1, hi]; exact rfl) | refine n0 ?_ | refine rD ?_ | refine n1 ?_ | refine nilB_i fun b hb => ?_ | refine nP ?_ ?_ | refine nS fun K hK => ?_ | (refine n2 ?_ ?_ <;> intro h <;> first | subst (h : _ = true) | subst (h : _ = false) | (simp only [FX, LX, hsz, h1, hi] at h) | skip) | refine And.intro ?_ ?_ | refine nK ‹Imp _ _› ?_) | exact nl | fail
    all_goals rfl
instance (l : List UInt8) : Con CC 40 [.d (.s (strT l)), .d (.s ⟨#[47]⟩)] (l.length ≤ 1048576) (.tup [.d (.s (strT (cutA l))), .d (.s (strT (cutB l))), .d (.b (cutH l))]) := by
  constructor; intro hl
  refine Den.pureI Tryz.func40 rfl 2 [.tmp 4, .tmp 5, .tmp 6] (by kernel_rfl) rfl rfl (by simp only [initE_nil, initE_cons, Nat.reduceAdd]; exact rfl) ?_
  repeat' first | (with_reducible first | refine nx' ?_ | refine n0 ?_ | refine rD ?_ | refine n1 ?_ | refine nilB_i fun b hb => ?_ | refine nP ?_ ?_ | refine nS fun K hK => ?_ | (refine n2 ?_ ?_ <;> intro h <;> first | subst (h : _ = true) | subst (h : _ = false) | skip) | refine And.intro ?_ ?_ | refine nK ‹Imp _ _› ?_) | exact nl | fail
end Go.PL

/- PlNew -/
/- Calls that hand out objects, and calls that write to the caller's objects; the steps of the walk over them. -/
namespace Go.PL
open Go
/-- The end of a walk: what is handed out, less known of the frame; behind the objects that stay, others are left. -/
def finG (T : Tab) (m : Nat) (rs : List ResultVar) (vs : List V) (os' : List Ob) (s : St) : Prop :=
  ∃ s' tl, Weak m s s' ∧ resVs T s' rs = some vs ∧ s'.os = os' ++ tl ∧ vs.map (asD s'.os) = vs
theorem finG_of {T : Tab} {m : Nat} {rs : List ResultVar} {vs : List V} {os' : List Ob} {s : St} (env : List (Nat × V)) (tl : List Ob) (hw : Weak m s ⟨env, os' ++ tl⟩)
    (h1 : resVs T ⟨env, os' ++ tl⟩ rs = some vs := by exact rfl) (h2 : vs.map (asD (os' ++ tl)) = vs := by exact rfl) : finG T m rs vs os' s := ⟨_, tl, hw, h1, rfl, h2⟩
theorem Den.newG {P : Program} {T : Tab} [TOk T P] {X : Call} {f : FuncId} {fn : Func} {body : Code} {a : List V} {vs : List V} {r : V} {env : List (Nat × V)} {os os' : List Ob} (hf : P.funcs[f]? = some fn) (hb : fn.body = some body) (n m : Nat) (rs : List ResultVar)
    (ho : okFn fn n = true) (hn : a.length = n) (hrs : fn.results.toList = rs) (he : initE 0 a = env) (hv : resOf vs = r) (hm : os.length = m) (hl : m ≤ os'.length) (hr : r.bndR os'.length = true) (hd : os'.all (Ob.bnd os'.length) = true)
    (h : Wp T (Den P T X) m body ⟨env, os⟩ (endQ (finG T m rs vs os'))) : Den P T X f a os r os' := by
  subst hm
  subst hv
  refine Den.of hf hb n ho hn (.mono (by rw [init_eq, he]; exact h) ?_)
  have key : ∀ s, finG T os.length rs vs os' s → ∃ s', Weak os.length s s' ∧ Ends T fn os.length s' (resOf vs) os' := by
    rintro s ⟨s', tl, h1, h2, h3, h4⟩
    exact ⟨s', h1, .mk vs tl (by rw [hrs]; exact h2) (by rw [h4]; exact .refl _) h3 hl hr hd⟩
  intro e s hs
  cases e with
  | ret => exact ⟨.inl rfl, key s hs⟩
  | normal => exact ⟨.inr rfl, key s hs⟩
  | exit n => exact hs.elim
section
variable {T : Tab} {C : Call} {nF : Nat} {env : List (Nat × V)} {os : List Ob} {K : St → Prop} {f : Operand} {args : List Operand} {ats : Array TypeId} {n : FuncId} {us : List V} {l : List Nat}
theorem wCN0 {N : List Ob} {r : V} (e : callV (ev env f) (evL env args) os = some (n, us, l)) (h : C n us [] r N) (hN : N.all Ob.plain = true) (hs : r.scal = false) (k : K ⟨env, freeze os l ++ N⟩) :
    op1R T C nF none (.call { callee := .value f, args := args.toArray, argTypes := ats }) ⟨env, os⟩ K := by
  obtain ⟨vs, ds, h1, h2, h3⟩ := callV_inv e
  rw [r1_call0, h1]
  refine .inl ⟨ds, l, r, N, h2, by rw [dV_eq] at h3; rw [h3]; exact h, hN, ?_⟩
  simp only [hs, Bool.false_eq_true, false_and, if_false]
  exact k
theorem wCm0 {os' : List Ob} {r : V} (e : calleeR (ev env f) (evL env args) = some (n, us)) (h : C n us os r os') (k : K ⟨env, os'⟩) :
    op1R T C nF none (.call { callee := .value f, args := args.toArray, argTypes := ats }) ⟨env, os⟩ K := by
  rw [r1_call0, e]
  exact .inr ⟨r, os', h, k⟩
end
def sh1L (n : Nat) : List V → List V
  | [] => []
  | x :: r => V.shift1 n x :: sh1L n r
def sh2L (n : Nat) : List V → List V
  | [] => []
  | x :: r => V.shift2 n x :: sh2L n r
theorem sh1L_eq {n : Nat} : ∀ l, l.map (V.shift1 n) = sh1L n l
  | [] => rfl
  | x :: r => by rw [List.map_cons, sh1L_eq r]; rfl
theorem sh2L_eq {n : Nat} : ∀ l, l.map (V.shift2 n) = sh2L n l
  | [] => rfl
  | x :: r => by rw [List.map_cons, sh2L_eq r]; rfl
theorem sh_tup {n : Nat} {cs : List V} : V.shift n (.tup cs) = .tup (sh2L n cs) := by show V.tup (cs.map _) = _; rw [sh2L_eq]
theorem sh_agg {n : Nat} {cs : List V} : V.shift n (.agg cs) = .agg (sh1L n cs) := by show V.agg (cs.map _) = _; rw [sh1L_eq]
theorem sh_d {n : Nat} {x : D} : V.shift n (.d x) = .d x := rfl
theorem sh_ref {n o i j : Nat} : V.shift n (.ref o i j) = .ref (n + o) i j := rfl
theorem sh2_agg {n : Nat} {cs : List V} : V.shift2 n (.agg cs) = .agg (sh1L n cs) := by show V.agg (cs.map _) = _; rw [sh1L_eq]
theorem sh2_d {n : Nat} {x : D} : V.shift2 n (.d x) = .d x := rfl
theorem sh2_ref {n o i j : Nat} : V.shift2 n (.ref o i j) = .ref (n + o) i j := rfl
theorem sh2_msl {n o i j : Nat} : V.shift2 n (.msl o i j) = .msl (n + o) i j := rfl
theorem sh1_d {n : Nat} {x : D} : V.shift1 n (.d x) = .d x := rfl
theorem sh1_ref {n o i j : Nat} : V.shift1 n (.ref o i j) = .ref (n + o) i j := rfl
theorem sh1_msl {n o i j : Nat} : V.shift1 n (.msl o i j) = .msl (n + o) i j := rfl
theorem sh1L_nil {n : Nat} : sh1L n [] = [] := rfl
theorem sh1L_cons {n : Nat} {x : V} {r : List V} : sh1L n (x :: r) = V.shift1 n x :: sh1L n r := rfl
theorem sh2L_nil {n : Nat} : sh2L n [] = [] := rfl
theorem sh2L_cons {n : Nat} {x : V} {r : List V} : sh2L n (x :: r) = V.shift2 n x :: sh2L n r := rfl
theorem ren_agg {f : Nat → Nat} {cs : List V} : V.ren f (.agg cs) = .agg (cs.map (V.ren1 f)) := rfl
attribute [go_sem] sh_tup sh_agg sh_d sh_ref sh2_agg sh2_d sh2_ref sh2_msl sh1_d sh1_ref sh1_msl sh1L_nil sh1L_cons sh2L_nil sh2L_cons
/-- A call that hands out objects. -/
theorem nPn {C : Call} {n : FuncId} {vs : List V} {r : V} {N : List Ob} {P Q : Prop} (hc : C n vs [] r N) (h2 : Q) (e : C n vs [] r N → Q → P := by
  intro a b
  first
  | (refine wCN (by simp -implicitDefEqProofs (disch := omega) only [callV, go_sem]; first | done | exact rfl | fail) a rfl rfl ?_; refine Eq.mpr ?_ b; simp -implicitDefEqProofs (disch := omega) only [go_sem]; exact rfl)
  | (refine wCN0 (by simp -implicitDefEqProofs (disch := omega) only [callV, go_sem]; first | done | exact rfl | fail) a rfl rfl ?_; refine Eq.mpr ?_ b; simp -implicitDefEqProofs (disch := omega) only [go_sem]; exact rfl)
  | fail) : P := e hc h2
/-- A call that works on the caller's objects. -/
theorem nPm {C : Call} {n : FuncId} {vs : List V} {os os' : List Ob} {r : V} {P Q : Prop} (hc : C n vs os r os') (h2 : Q) (e : C n vs os r os' → Q → P := by
  intro a b
  first
  | (refine wCm (by simp -implicitDefEqProofs (disch := omega) only [calleeR, go_sem]; first | done | exact rfl | fail) a ?_; refine Eq.mpr ?_ b; simp -implicitDefEqProofs (disch := omega) only [go_sem]; exact rfl)
  | (refine wCm0 (by simp -implicitDefEqProofs (disch := omega) only [calleeR, go_sem]; first | done | exact rfl | fail) a ?_; refine Eq.mpr ?_ b; simp -implicitDefEqProofs (disch := omega) only [go_sem]; exact rfl)
  | fail) : P := e hc h2
end Go.PL
