/- A plain machine, sound for the given model, and contracts of functions over it, part 14: PlBack. Nothing is assumed. -/
import Derived.Test.YtfdjgoapdkpbaaaPlRun
set_option linter.unusedSimpArgs false
set_option linter.unusedVariables false
set_option linter.unusedSectionVars false
/- PlBack -/
namespace Go.PL
open Go
section
variable {T : Tab} {C : Call} {nF : Nat} {s : St} {Q : Ex → St → Prop}
theorem Wp.monoQ {c : Code} {Q' : Ex → St → Prop} (h : Wp T C nF c s Q) (hq : ∀ e s, Q e s → Q' e s) : Wp T C nF c s Q' := h.mono hq

/-- A range over slices.Backward, by a table of the objects. -/
theorem Wp.rangeR {f : Operand} {p0 p1 : Tmp} {assign body : Code} (g : FuncId) (es : List Int) (R : Nat → List Ob) (J : Nat → Prop) (Rx : List Ob → Prop) (F : Nat → List (Nat × V)) (N : Nat)
    (hg : T.bk.contains g = true) (hp : (p0 == p1) = false) (hN : s.os.length = N) (hn : nF ≤ N) (hl : es.length * 8 ≤ 140737488351232)
    (hf : ev s.env f = .d (.fn (.func g) [] [.ptr [.sl (es.map .i)]])) (h0 : s.os = R es.length) (hJ : J es.length)
    (hA : ∀ k, k < es.length → J (k + 1) → ∀ K : St → Prop, Imp (fun s' => Weak N s' ⟨F k, R (k + 1)⟩) K → Wp T C N assign ⟨(p1, .d (.i (es.getD k 0))) :: (p0, .d (.i k)) :: s.env, R (k + 1)⟩ (thn K fun _ _ => False))
    (hB : ∀ k, k < es.length → J (k + 1) → ∀ K : St → Prop, Imp (fun s' => J k ∧ Weak N s' ⟨[], R k⟩) K → ∀ Kx : St → Prop, Imp (fun s' => ∃ os, Rx os ∧ Weak N s' ⟨[], os⟩) Kx →
      Wp T C N body ⟨F k, R (k + 1)⟩ (thn K fun e s => e = .ret ∧ Kx s))
    (hD : J 0 → Q .normal ⟨s.env, R 0⟩) (hX : ∀ os, Rx os → Q .ret ⟨s.env, os⟩) : Wp T C nF (.rangeFunc f #[p0, p1] assign body) s Q := by
  subst hN
  refine .range g es (fun k os => os = R k ∧ J k) (fun e os => e = .ret ∧ Rx os) (fun k os s' => Weak s.os.length s' ⟨F k, R (k + 1)⟩) (by simpa using hg) (by simpa using hp) hn hl hf ⟨h0, hJ⟩ ?_ ?_ ?_ ?_
  · rintro k os hk ⟨rfl, hJ1⟩
    refine (hA k hk hJ1 _ fun _ h => h).monoQ fun e s' h => ?_
    cases e with
    | normal => exact ⟨rfl, h⟩
    | ret => exact h.elim
    | exit => exact h.elim
  · rintro k os s' hk ⟨rfl, hJ1⟩ hw
    refine Wp.weak hw ((hB k hk hJ1 _ (fun _ h => h) _ fun _ h => h).monoQ fun e s' h => ?_)
    cases e with
    | normal => exact ⟨⟨[], R k⟩, h.2, rfl, h.1⟩
    | ret => obtain ⟨_, os, h1, h2⟩ := h; exact ⟨⟨[], os⟩, h2, rfl, h1⟩
    | exit => exact absurd h.1 (by simp)
  · rintro os ⟨rfl, h⟩; exact hD h
  · rintro e os ⟨rfl, h⟩; exact ⟨by simp, hX os h⟩
end
def finM (t : Tmp) (r : V) (os' : List Ob) (s : St) : Prop := look s.env t = r ∧ s.os = os'
theorem finM_eq {t : Tmp} {r : V} {os os' : List Ob} {env : List (Nat × V)} : finM t r os' ⟨env, os⟩ = (look env t = r ∧ os = os') := rfl

/-- A call that writes to objects of its caller. -/
theorem Den.mutI {P : Program} {T : Tab} [TOk T P] {X : Call} {f : FuncId} {fn : Func} {body : Code} {a : List V} {r : D} {env : List (Nat × V)} {os os' : List Ob} {t : Tmp} (hf : P.funcs[f]? = some fn) (hb : fn.body = some body) (n N : Nat) (ho : okFn fn n = true) (hn : a.length = n) (hrs : fn.results.toList = [.tmp t])
    (he : initE 0 a = env) (hN : os.length = N) (hl : os'.length = N) (hd : os'.all (Ob.bnd N) = true) (h : Wp T (Den P T X) N body ⟨env, os⟩ (endQ (finM t (.d r) os'))) : Den P T X f a os (.d r) os' := by
  subst hN
  refine Den.of hf hb n ho hn (.mono (by rw [init_eq, he]; exact h) ?_)
  have key : ∀ s, finM t (.d r) os' s → ∃ s', Weak os.length s s' ∧ Ends T fn os.length s' (.d r) os' := by
    intro s hs
    refine ⟨s, Weak.fz (nF := os.length) (s := s) [], .mk [.d r] [] ?_ (.refl _) (by rw [hs.2]; simp) (by omega) rfl (by rw [hl]; exact hd)⟩
    rw [hrs]
    show (match resV T s (.tmp t), resVs T s [] with | some v, some vs => some (v :: vs) | _, _ => none) = _
    simp only [resV, resVs, hs.1]
  intro e s hs
  cases e with
  | ret => exact ⟨.inl rfl, key s hs⟩
  | normal => exact ⟨.inr rfl, key s hs⟩
  | exit n => exact hs.elim

/-- A call that hands out an object of its own. -/
theorem Den.newI {P : Program} {T : Tab} [TOk T P] {X : Call} {f : FuncId} {fn : Func} {body : Code} {a : List V} {r : V} {env : List (Nat × V)} {os' : List Ob} {t : Tmp} (hf : P.funcs[f]? = some fn) (hb : fn.body = some body) (n : Nat) (ho : okFn fn n = true) (hn : a.length = n) (hrs : fn.results.toList = [.tmp t])
    (he : initE 0 a = env) (ha : asD os' r = r) (hr : r.bndR os'.length = true) (hd : os'.all (Ob.bnd os'.length) = true) (h : Wp T (Den P T X) 0 body ⟨env, []⟩ (endQ (finM t r os'))) : Den P T X f a [] r os' := by
  refine Den.of hf hb n ho hn (.mono (by rw [init_eq, he]; exact h) ?_)
  have key : ∀ s, finM t r os' s → ∃ s', Weak ([] : List Ob).length s s' ∧ Ends T fn ([] : List Ob).length s' r os' := by
    intro s hs
    refine ⟨s, Weak.fz (nF := 0) (s := s) [], .mk [r] [] ?_ (by rw [hs.2]; show VLe (resOf [asD os' r]) r; rw [ha]; exact .refl _) (by rw [hs.2]; simp) (by simp) hr hd⟩
    rw [hrs]
    show (match resV T s (.tmp t), resVs T s [] with | some v, some vs => some (v :: vs) | _, _ => none) = _
    simp only [resV, resVs, hs.1]
  intro e s hs
  cases e with
  | ret => exact ⟨.inl rfl, key s hs⟩
  | normal => exact ⟨.inr rfl, key s hs⟩
  | exit n => exact hs.elim

theorem wCN {C : Call} {T : Tab} {nF : Nat} {d : Tmp} {f : Operand} {args : List Operand} {ats : Array TypeId} {n : FuncId} {us : List V} {l : List Nat} {env : List (Nat × V)} {os N : List Ob} {r : V} {K : St → Prop} (e : callV (ev env f) (evL env args) os = some (n, us, l)) (h : C n us [] r N) (hN : N.all Ob.plain = true) (hs : r.scal = false)
    (k : K ⟨(d, r.shift os.length) :: env, freeze os l ++ N⟩) :
    op1R T C nF (some d) (.call { callee := .value f, args := args.toArray, argTypes := ats }) ⟨env, os⟩ K := by
  obtain ⟨vs, ds, h1, h2, h3⟩ := callV_inv e
  rw [r1_call, h1]
  refine .inl ⟨ds, l, r, N, h2, by rw [dV_eq] at h3; rw [h3]; exact h, hN, ?_⟩
  simp only [hs, Bool.false_eq_true, false_and, if_false]
  exact k
/-- A call by what it does to the objects. -/
theorem wCm {C : Call} {T : Tab} {nF : Nat} {d : Tmp} {f : Operand} {args : List Operand} {ats : Array TypeId} {n : FuncId} {us : List V} {env : List (Nat × V)} {os os' : List Ob} {r : V} {K : St → Prop} (e : calleeR (ev env f) (evL env args) = some (n, us)) (h : C n us os r os') (k : K ⟨(d, r) :: env, os'⟩) :
    op1R T C nF (some d) (.call { callee := .value f, args := args.toArray, argTypes := ats }) ⟨env, os⟩ K := by
  rw [r1_call, e]
  exact .inr (.inl ⟨r, os', h, k⟩)
theorem leaf_back (f : Fn) (x : D) (b : Bool) : leaf [Ob.var [.d x] b] (mkFn f [] [.ref 0 0 0]) = some (.fn f [] [.ptr [x]], [0]) := rfl
theorem scal_fn (f : Fn) (a b : List D) : D.scal (.fn f a b) = false := rfl
attribute [go_sem] leaf_back scal_fn finM_eq
end Go.PL
