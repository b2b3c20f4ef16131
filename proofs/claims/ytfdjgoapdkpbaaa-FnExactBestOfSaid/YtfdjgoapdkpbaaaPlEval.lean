/- A plain machine, sound for the given model, and contracts of functions over it, part 4: PlEval. Nothing is assumed. -/
import Derived.Test.YtfdjgoapdkpbaaaG03
set_option linter.unusedSimpArgs false
set_option linter.unusedVariables false
set_option linter.unusedSectionVars false
/- PlEval -/
namespace Go.PL
open Go

theorem beq_beq (k t : Nat) : Nat.beq k t = (k == t) := by
  cases h : Nat.beq k t with
  | true => rw [Nat.eq_of_beq_eq_true h]; simp
  | false =>
    have : k ≠ t := fun e => by rw [e, Nat.beq_refl] at h; cases h
    simp [this]

theorem look_cons (k t : Nat) (v : V) (r : List (Nat × V)) : look ((k, v) :: r) t = bif k == t then v else look r t := by
  simp only [look, beq_beq]

theorem put_some (env : List (Nat × V)) (os : List Ob) (t : Tmp) (v : V) : St.put ⟨env, os⟩ (some t) v = ⟨(t, v) :: env, os⟩ := rfl
theorem put_none (env : List (Nat × V)) (os : List Ob) (v : V) : St.put ⟨env, os⟩ none v = ⟨env, os⟩ := rfl

theorem G_skip {T : Tab} {C : Call} {nF : Nat} {s : St} {Q : Ex → St → Prop} : G T C nF .skip s Q = Q .normal s := rfl
theorem G_label {T : Tab} {C : Call} {nF l : Nat} {s : St} {Q : Ex → St → Prop} : G T C nF (.label l) s Q = Q .normal s := rfl
theorem G_exit {T : Tab} {C : Call} {nF l : Nat} {s : St} {Q : Ex → St → Prop} : G T C nF (.exit l) s Q = Q (.exit l) s := rfl
theorem G_ret {T : Tab} {C : Call} {nF : Nat} {s : St} {Q : Ex → St → Prop} : G T C nF .ret s Q = Q .ret s := rfl
theorem G_seq {T : Tab} {C : Call} {nF : Nat} {a b : Code} {s : St} {Q : Ex → St → Prop} : G T C nF (.seq a b) s Q = G T C nF a s (thn (fun s => G T C nF b s Q) Q) := rfl
theorem G_block {T : Tab} {C : Call} {nF id : Nat} {a : Code} {s : St} {Q : Ex → St → Prop} : G T C nF (.block id a) s Q = G T C nF a s (blk id Q) := rfl
theorem G_region {T : Tab} {C : Call} {nF id : Nat} {ops : Array Oper} {s : St} {Q : Ex → St → Prop} : G T C nF (.region id ops false) s Q = opsK T C nF ops ops.toList s (Q .normal) := rfl
theorem G_cond {T : Tab} {C : Call} {nF : Nat} {c : Operand} {a b : Code} {s : St} {Q : Ex → St → Prop} : G T C nF (.cond c a b) s Q = (match ev s.env c with
    | .d (.val (.bool t)) => (t = true → G T C nF a s Q) ∧ (t = false → G T C nF b s Q)
    | _ => False) := rfl
theorem G_loop {T : Tab} {C : Call} {nF : Nat} {a : Code} {s : St} {Q : Ex → St → Prop} : G T C nF (.loop a) s Q = Wp T C nF (.loop a) s Q := rfl
theorem G_draw {T : Tab} {C : Call} {nF id : Nat} {ops : Array Oper} {s : St} {Q : Ex → St → Prop} : G T C nF (.region id ops true) s Q = Wp T C nF (.region id ops true) s Q := rfl

theorem thn_normal {K : St → Prop} {Q : Ex → St → Prop} {s : St} : thn K Q .normal s = K s := rfl
theorem thn_exit {K : St → Prop} {Q : Ex → St → Prop} {s : St} {n : Nat} : thn K Q (.exit n) s = Q (.exit n) s := rfl
theorem thn_ret {K : St → Prop} {Q : Ex → St → Prop} {s : St} : thn K Q .ret s = Q .ret s := rfl
theorem blk_normal {id : Nat} {Q : Ex → St → Prop} {s : St} : blk id Q .normal s = Q .normal s := rfl
theorem blk_ret {id : Nat} {Q : Ex → St → Prop} {s : St} : blk id Q .ret s = Q .ret s := rfl
theorem blk_exit {id n : Nat} {Q : Ex → St → Prop} {s : St} : blk id Q (.exit n) s = bif n == id then Q .normal s else Q (.exit n) s := by
  simp only [blk, beq_beq]

def okFn (fn : Func) (n : Nat) : Bool := !(fn.name == "runtime.NumGoroutine") && Nat.ble n fn.ntmps && (match fn.body with | some b => dstOk fn.ntmps b | none => false)

def AllT (P : Program) : List (Nat × TI) → Prop
  | [] => True
  | (t, i) :: r => ti0 P t = some i ∧ AllT P r

def AllE (P : Program) : List (Nat × List EK) → Prop
  | [] => True
  | (t, l) :: r => EqOk P t l ∧ AllE P r
theorem AllE.get {P : Program} : ∀ {e : List (Nat × List EK)}, AllE P e → ∀ t l, eqsL e t = some l → EqOk P t l
  | [], _, _, _, ht => nomatch ht
  | (k, j) :: r, h, t, l, ht => by
    simp only [eqsL] at ht
    cases hb : Nat.beq k t with
    | true =>
      rw [hb, cond_true] at ht
      rw [← Nat.eq_of_beq_eq_true hb, ← Option.some.inj ht]
      exact h.1
    | false =>
      rw [hb, cond_false] at ht
      exact AllE.get h.2 t l ht
theorem AllT.get {P : Program} : ∀ {e : List (Nat × TI)}, AllT P e → ∀ t i, tiL e t = some i → ti0 P t = some i
  | [], _, _, _, ht => nomatch ht
  | (k, j) :: r, h, t, i, ht => by
    simp only [tiL] at ht
    cases hb : Nat.beq k t with
    | true =>
      rw [hb, cond_true] at ht
      rw [← Nat.eq_of_beq_eq_true hb, ← Option.some.inj ht]
      exact h.1
    | false =>
      rw [hb, cond_false] at ht
      exact AllT.get h.2 t i ht
theorem TOk.of {P : Program} {T : Tab} (h : AllT P T.l) (he : AllE P T.eqs := by exact trivial) : TOk T P := ⟨h.get, he.get⟩

theorem Den.of {P : Program} {T : Tab} [TOk T P] {X : Call} {f : FuncId} {fn : Func} {body : Code} {a : List V} {os : List Ob} {r : V} {os' : List Ob} (hf : P.funcs[f]? = some fn) (hb : fn.body = some body) (n : Nat) (ho : okFn fn n = true) (hn : a.length = n)
    (h : Wp T (Den P T X) os.length body (init a os) fun e s => (e = .ret ∨ e = .normal) ∧ ∃ s', Weak os.length s s' ∧ Ends T fn os.length s' r os') : Den P T X f a os r os' := by
  simp only [okFn, hb, Bool.and_eq_true, Bool.not_eq_true'] at ho
  exact Den.fn hf hb ho.1.1 (by rw [hn]; exact Nat.le_of_ble_eq_true ho.1.2) ho.2 h

end Go.PL
namespace Go.PL
open Go

/-- The body has come to its end. -/
def endQ (K : St → Prop) : Ex → St → Prop
  | .ret, s => K s
  | .normal, s => K s
  | _, _ => False

theorem endQ_ret {K : St → Prop} {s : St} : endQ K .ret s = K s := rfl
theorem endQ_normal {K : St → Prop} {s : St} : endQ K .normal s = K s := rfl
theorem endQ_exit {K : St → Prop} {s : St} {n : Nat} : endQ K (.exit n) s = False := rfl

/-- The results, all data. -/
def finD (T : Tab) (rs : List ResultVar) (r : V) (s : St) : Prop :=
  match resVs T s rs with
  | some vs => match mapL (leaf s.os) vs with
    | some (ds, _) => resOf (ds.map .d) = r
    | none => False
  | none => False

theorem Den.pure {P : Program} {T : Tab} [TOk T P] {X : Call} {f : FuncId} {fn : Func} {body : Code} {a : List V} {r : V} (hf : P.funcs[f]? = some fn) (hb : fn.body = some body) (n : Nat) (rs : List ResultVar) (ho : okFn fn n = true) (hrs : fn.results.toList = rs) (hn : a.length = n)
    (h : Wp T (Den P T X) 0 body (init a []) (endQ (finD T rs r))) : Den P T X f a [] r [] := by
  refine Den.of hf hb n ho hn (.mono h ?_)
  have key : ∀ s, finD T rs r s → ∃ s', Weak 0 s s' ∧ Ends T fn 0 s' r [] := by
    intro s hs
    unfold finD at hs
    split at hs
    · rename_i vs hv
      split at hs
      · rename_i ds l hl
        exact ⟨s, Weak.fz (nF := 0) (s := s) [], .data vs ds l (by rw [hrs]; exact hv) hl rfl (by rw [hs]; exact .refl _) rfl⟩
      · exact hs.elim
    · exact hs.elim
  intro e s hs
  cases e with
  | ret => exact ⟨.inl rfl, key s hs⟩
  | normal => exact ⟨.inr rfl, key s hs⟩
  | exit n => exact hs.elim

def nn0 (x : D) : D := match x with
  | .val (.slice none 0 0) => .sl []
  | x => x
def nnL : List D → List D
  | [] => []
  | x :: r => nn0 x :: nnL r
def nnD (x : D) : D := match x with
  | .agg cs => .agg (nnL cs)
  | x => nn0 x
def nnV : List D → List V
  | [] => []
  | x :: r => .d (nnD x) :: nnV r

theorem nn0_le (x : D) : DLe x (nn0 x) := by
  unfold nn0
  split
  · exact .nil
  · exact .refl _
theorem nnL_len : ∀ l : List D, (nnL l).length = l.length
  | [] => rfl
  | x :: r => by simp [nnL, nnL_len r]
theorem nnL_le : ∀ (l : List D) (i : Nat) (hi : i < l.length), DLe l[i] ((nnL l)[i]'(by rw [nnL_len]; exact hi))
  | x :: r, 0, _ => nn0_le x
  | x :: r, i + 1, hi => nnL_le r i (by simpa using hi)
theorem nnD_le (x : D) : DLe x (nnD x) := by
  unfold nnD
  split
  · exact .agg (nnL_len _).symm (nnL_le _)
  · exact nn0_le _
theorem nnV_len : ∀ l : List D, (nnV l).length = l.length
  | [] => rfl
  | x :: r => by simp [nnV, nnV_len r]
theorem nnV_le : ∀ (l : List D) (i : Nat) (hi : i < l.length), VLe (.d l[i]) ((nnV l)[i]'(by rw [nnV_len]; exact hi))
  | x :: r, 0, _ => .d (nnD_le x)
  | x :: r, i + 1, hi => nnV_le r i (by simpa using hi)
theorem resOf_nn (ds : List D) : VLe (resOf (ds.map .d)) (resOf (nnV ds)) := by
  match ds with
  | [] => exact .refl _
  | [x] => exact .d (nnD_le x)
  | x :: y :: r =>
    refine .tup (by simp [nnV_len]) fun i hi => ?_
    have h := nnV_le (x :: y :: r) i (by simpa using hi)
    have key : ∀ (l : List D) (i : Nat) (hi : i < (l.map V.d).length), (l.map V.d)[i] = .d (l[i]'(by simpa using hi)) := by
      intro l i hi; simp
    exact (key (x :: y :: r) i hi) ▸ h

/-- The results, all data; a slice that is nil is one of no elements. -/
def finN (T : Tab) (rs : List ResultVar) (r : V) (s : St) : Prop :=
  match resVs T s rs with
  | some vs => match mapL (leaf s.os) vs with
    | some (ds, _) => resOf (nnV ds) = r
    | none => False
  | none => False

theorem Den.pureN {P : Program} {T : Tab} [TOk T P] {X : Call} {f : FuncId} {fn : Func} {body : Code} {a : List V} {r : V} (hf : P.funcs[f]? = some fn) (hb : fn.body = some body) (n : Nat) (rs : List ResultVar) (ho : okFn fn n = true) (hrs : fn.results.toList = rs) (hn : a.length = n)
    (h : Wp T (Den P T X) 0 body (init a []) (endQ (finN T rs r))) : Den P T X f a [] r [] := by
  refine Den.of hf hb n ho hn (.mono h ?_)
  have key : ∀ s, finN T rs r s → ∃ s', Weak 0 s s' ∧ Ends T fn 0 s' r [] := by
    intro s hs
    unfold finN at hs
    split at hs
    · rename_i vs hv
      split at hs
      · rename_i ds l hl
        exact ⟨s, Weak.fz (nF := 0) (s := s) [], .data vs ds l (by rw [hrs]; exact hv) hl rfl (by rw [← hs]; exact resOf_nn ds) rfl⟩
      · exact hs.elim
    · exact hs.elim
  intro e s hs
  cases e with
  | ret => exact ⟨.inl rfl, key s hs⟩
  | normal => exact ⟨.inr rfl, key s hs⟩
  | exit n => exact hs.elim

/-- Less is known; the objects stay. -/
theorem Weak.low {nF : Nat} {env env' : List (Nat × V)} {os : List Ob} (h : sub env env') : Weak nF ⟨env, os⟩ ⟨env', os⟩ := .env h rfl

theorem sub_nil (env : List (Nat × V)) : sub env [] = True := rfl
theorem sub_cons (env : List (Nat × V)) (t : Nat) (v : V) (r : List (Nat × V)) : sub env ((t, v) :: r) = (look env t = v ∧ sub env r) := rfl

theorem wrap_id {n : Int} (h1 : -9223372036854775808 ≤ n) (h2 : n < 9223372036854775808) : IntKind.wrap .i64 n = n := by
  have e1 : (2 ^ IntKind.i64.bits : Int) = 18446744073709551616 := by decide
  have e2 : (2 ^ (IntKind.i64.bits - 1) : Int) = 9223372036854775808 := by decide
  have e3 : IntKind.i64.signed = true := by decide
  simp only [IntKind.wrap, e1, e2, e3, Bool.true_and, decide_eq_true_eq]
  split <;> omega

theorem leaf_d (os : List Ob) (x : D) : leaf os (.d x) = some (x, []) := rfl
theorem leaf_msl (os : List Ob) (o a b : Nat) : leaf os (.msl o a b) = (match os[o]? with
    | some (.arr _ es _) => some (.sl ((es.drop a).take b), [o])
    | some (.tree _ es) => match allD es with
      | some ds => some (.sl ((ds.drop a).take b), [o])
      | none => none
    | _ => none) := rfl
theorem leaf_ref (os : List Ob) (o i j : Nat) : leaf os (.ref o i j) = (match os[o]? with
    | some (.var cs _) => match i, mapL (leaf0 os) cs with
      | 0, some (xs, a) => some (.ptr (xs.drop j), o :: a)
      | _, _ => none
    | _ => none) := rfl
theorem leaf_agg (os : List Ob) (cs : List V) : leaf os (.agg cs) = (match mapL (leaf0 os) cs with
    | some (xs, a) => some (.agg xs, a)
    | none => none) := rfl
theorem leaf_fn (os : List Ob) (f : Fn) (a b : List V) : leaf os (.fn f a b) = (match mapL (leaf1 os) a, mapL (leaf1 os) b with
    | some (x, l), some (y, m) => some (.fn f x y, l ++ m)
    | _, _ => none) := rfl
theorem leaf1_d (os : List Ob) (x : D) : leaf1 os (.d x) = some (x, []) := rfl
theorem leaf1_msl (os : List Ob) (o a b : Nat) : leaf1 os (.msl o a b) = (match os[o]? with
    | some (.arr _ es _) => some (.sl ((es.drop a).take b), [o])
    | some (.tree _ es) => match allD es with
      | some ds => some (.sl ((ds.drop a).take b), [o])
      | none => none
    | _ => none) := rfl
theorem leaf1_ref (os : List Ob) (o i j : Nat) : leaf1 os (.ref o i j) = (match os[o]? with
    | some (.var cs _) => match i, mapL (leaf0 os) cs with
      | 0, some (xs, a) => some (.ptr (xs.drop j), o :: a)
      | _, _ => none
    | _ => none) := rfl
theorem leaf1_agg (os : List Ob) (cs : List V) : leaf1 os (.agg cs) = (match mapL (leaf0 os) cs with
    | some (xs, a) => some (.agg xs, a)
    | none => none) := rfl
theorem leaf0_d (os : List Ob) (x : D) : leaf0 os (.d x) = some (x, []) := rfl
theorem leaf0_msl (os : List Ob) (o a b : Nat) : leaf0 os (.msl o a b) = (match os[o]? with
    | some (.arr _ es _) => some (.sl ((es.drop a).take b), [o])
    | some (.tree _ es) => match allD es with
      | some ds => some (.sl ((ds.drop a).take b), [o])
      | none => none
    | _ => none) := rfl
theorem mapL_nil (f : V → Option (D × List Nat)) : mapL f [] = some ([], []) := rfl
theorem mapL_cons (f : V → Option (D × List Nat)) (v : V) (r : List V) : mapL f (v :: r) = (match f v, mapL f r with
    | some (x, a), some (xs, b) => some (x :: xs, a ++ b)
    | _, _ => none) := rfl
theorem resOf_one (v : V) : resOf [v] = v := rfl
theorem resOf_nil : resOf [] = .tup [] := rfl
theorem resOf_two (v u : V) (r : List V) : resOf (v :: u :: r) = .tup (v :: u :: r) := rfl
end Go.PL
