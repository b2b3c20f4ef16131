/- A plain machine, sound for the given model, and contracts of functions over it, part 31: AR2 PlNew PlSrc PlOwn PlOwn2 TM0 TM1. Nothing is assumed. -/
import Derived.Test.YtfdjgoapdkpbaaaG15
import Derived.Test.YtfdjgoapdkpbaaaG20
import Derived.Test.YtfdjgoapdkpbaaaAR
import Derived.Test.YtfdjgoapdkpbaaaAD
set_option linter.unusedSimpArgs false
set_option linter.unusedVariables false
set_option linter.unusedSectionVars false
/- AR2 -/
namespace Go.PL
open Go Go.Proofs
section
variable {H : Type} {enc : TypeId × Value → H} {w : World}
theorem rdRecords : Rd enc Try.prog w 22 (fun l : List Rc => [.sl (l.map encRc)]) pRcs :=
  (Rd.slice (sz := 6) (by_ := 96) (fun r : Rc => encRc r) Try.underlying22 (by kernel_rfl) (by kernel_rfl) (by decide) (fun _ => rfl) (fun _ => rfl) rdRecord).map id (fun _ => rfl) (fun l h => ⟨by have := h.1; unfold reachBytes at this; simp only [id]; omega, h.2⟩)
theorem rdReport : Rd enc Try.prog w 24 (fun r : Rp => [.i r.status, .sl (r.recs.map encRc)]) (fun r => pRcs r.recs) :=
  (Rd.struct Try.underlying24 (by kernel_rfl) (RdF.cons (n := 1) rfl (by kernel_rfl) (Rd.int Try.underlying3) (RdF.cons (n := 1) rfl (by kernel_rfl) rdRecords RdF.nil))).map
    (fun x => (⟨x.1, x.2.1⟩ : Rp)) (fun _ => rfl) (fun x h => h.2.1)
end
end Go.PL

/- PlNew -/
/- Calls that hand out objects, and calls that write to the caller's objects; the steps of the walk over them. -/
namespace Go.PL
open Go
/-- The end of a walk: what is handed out, less known of the frame; behind the objects that stay, others are left. -/
def finG (T : Tab) (m : Nat) (rs : List ResultVar) (vs : List V) (os' : List Ob) (s : St) : Prop :=
  ∃ s' tl, Weak m s s' ∧ resVs T s' rs = some vs ∧ s'.os = os' ++ tl ∧ vs.map (asD s'.os) = vs
theorem finG_of {T : Tab} {m : Nat} {rs : List ResultVar} {vs : List V} {os' : List Ob} {s : St} (env : List (Nat × V)) (tl : List Ob) (hw : Weak m s ⟨env, os' ++ tl⟩)
    (h1 : resVs T ⟨env, os' ++ tl⟩ rs = some vs := by exact rfl) (h2 : vs.map (asD (os' ++ tl)) = vs := by exact rfl) : finG T m rs vs os' s := ⟨_, tl, hw, h1, rfl, h2⟩
theorem Den.newG {P : Program} {T : Tab} [TOk T P] {X : Call} {f : FuncId} {fn : Func} {body : Code} {a : List V} {vs : List V} {r : V} {env : List (Nat × V)} {os os' : List Ob} (hf : P.funcs[f]? = some fn) (hb : fn.body = some body) (n m : Nat) (rs : List ResultVar)
    (ho : okFn fn n = true) (hn : a.length = n) (hrs : fn.results.toList = rs) (he : initE 0 a = env) (hv : resOf vs = r) (hm : os.length = m) (hl : m ≤ os'.length) (hr : r.bndR os'.length = true) (hd : os'.all (Ob.bnd os'.length) = true)
    (h : Wp T (Den P T X) m body ⟨env, os⟩ (endQ (finG T m rs vs os'))) : Den P T X f a os r os' := by
  subst hm
  subst hv
  refine Den.of hf hb n ho hn (.mono (by rw [init_eq, he]; exact h) ?_)
  have key : ∀ s, finG T os.length rs vs os' s → ∃ s', Weak os.length s s' ∧ Ends T fn os.length s' (resOf vs) os' := by
    rintro s ⟨s', tl, h1, h2, h3, h4⟩
    exact ⟨s', h1, .mk vs tl (by rw [hrs]; exact h2) (by rw [h4]; exact .refl _) h3 hl hr hd⟩
  intro e s hs
  cases e with
  | ret => exact ⟨.inl rfl, key s hs⟩
  | normal => exact ⟨.inr rfl, key s hs⟩
  | exit n => exact hs.elim
section
variable {T : Tab} {C : Call} {nF : Nat} {env : List (Nat × V)} {os : List Ob} {K : St → Prop} {f : Operand} {args : List Operand} {ats : Array TypeId} {n : FuncId} {us : List V} {l : List Nat}
theorem wCN0 {N : List Ob} {r : V} (e : callV (ev env f) (evL env args) os = some (n, us, l)) (h : C n us [] r N) (hN : N.all Ob.plain = true) (hs : r.scal = false) (k : K ⟨env, freeze os l ++ N⟩) :
    op1R T C nF none (.call { callee := .value f, args := args.toArray, argTypes := ats }) ⟨env, os⟩ K := by
  obtain ⟨vs, ds, h1, h2, h3⟩ := callV_inv e
  rw [r1_call0, h1]
  refine .inl ⟨ds, l, r, N, h2, by rw [dV_eq] at h3; rw [h3]; exact h, hN, ?_⟩
  simp only [hs, Bool.false_eq_true, false_and, if_false]
  exact k
theorem wCt {d : Tmp} {N : List Ob} {r : V} (e : callV (ev env f) (evL env args) os = some (n, us, l)) (h : C n us [] r N) (hN : N.all Ob.own = true) (hs : r.own = true) (k : K ⟨(d, r.shift os.length) :: env, os ++ N⟩) :
    op1R T C nF (some d) (.call { callee := .value f, args := args.toArray, argTypes := ats }) ⟨env, os⟩ K := by
  obtain ⟨vs, ds, h1, h2, h3⟩ := callV_inv e
  rw [r1_call, h1]
  exact .inr (.inr ⟨ds, l, r, N, h2, by rw [dV_eq] at h3; rw [h3]; exact h, hs, hN, k⟩)
theorem wCt0 {N : List Ob} {r : V} (e : callV (ev env f) (evL env args) os = some (n, us, l)) (h : C n us [] r N) (hN : N.all Ob.own = true) (hs : r.own = true) (k : K ⟨env, os ++ N⟩) :
    op1R T C nF none (.call { callee := .value f, args := args.toArray, argTypes := ats }) ⟨env, os⟩ K := by
  obtain ⟨vs, ds, h1, h2, h3⟩ := callV_inv e
  rw [r1_call0, h1]
  exact .inr (.inr ⟨ds, l, r, N, h2, by rw [dV_eq] at h3; rw [h3]; exact h, hs, hN, k⟩)
theorem wCm0 {os' : List Ob} {r : V} (e : calleeR (ev env f) (evL env args) = some (n, us)) (h : C n us os r os') (k : K ⟨env, os'⟩) :
    op1R T C nF none (.call { callee := .value f, args := args.toArray, argTypes := ats }) ⟨env, os⟩ K := by
  rw [r1_call0, e]
  exact .inr (.inl ⟨r, os', h, k⟩)
end
def sh1L (n : Nat) : List V → List V
  | [] => []
  | x :: r => V.shift1 n x :: sh1L n r
def sh2L (n : Nat) : List V → List V
  | [] => []
  | x :: r => V.shift2 n x :: sh2L n r
theorem sh1L_eq {n : Nat} : ∀ l, l.map (V.shift1 n) = sh1L n l
  | [] => rfl
  | x :: r => by rw [List.map_cons, sh1L_eq r]; rfl
theorem sh2L_eq {n : Nat} : ∀ l, l.map (V.shift2 n) = sh2L n l
  | [] => rfl
  | x :: r => by rw [List.map_cons, sh2L_eq r]; rfl
theorem sh_tup {n : Nat} {cs : List V} : V.shift n (.tup cs) = .tup (sh2L n cs) := by show V.tup (cs.map _) = _; rw [sh2L_eq]
theorem sh_agg {n : Nat} {cs : List V} : V.shift n (.agg cs) = .agg (sh1L n cs) := by show V.agg (cs.map _) = _; rw [sh1L_eq]
theorem sh_d {n : Nat} {x : D} : V.shift n (.d x) = .d x := rfl
theorem sh_ref {n o i j : Nat} : V.shift n (.ref o i j) = .ref (n + o) i j := rfl
theorem sh2_agg {n : Nat} {cs : List V} : V.shift2 n (.agg cs) = .agg (sh1L n cs) := by show V.agg (cs.map _) = _; rw [sh1L_eq]
theorem sh2_d {n : Nat} {x : D} : V.shift2 n (.d x) = .d x := rfl
theorem sh2_ref {n o i j : Nat} : V.shift2 n (.ref o i j) = .ref (n + o) i j := rfl
theorem sh2_msl {n o i j : Nat} : V.shift2 n (.msl o i j) = .msl (n + o) i j := rfl
theorem sh1_d {n : Nat} {x : D} : V.shift1 n (.d x) = .d x := rfl
theorem sh1_ref {n o i j : Nat} : V.shift1 n (.ref o i j) = .ref (n + o) i j := rfl
theorem sh1_msl {n o i j : Nat} : V.shift1 n (.msl o i j) = .msl (n + o) i j := rfl
theorem sh1L_nil {n : Nat} : sh1L n [] = [] := rfl
theorem sh1L_cons {n : Nat} {x : V} {r : List V} : sh1L n (x :: r) = V.shift1 n x :: sh1L n r := rfl
theorem sh2L_nil {n : Nat} : sh2L n [] = [] := rfl
theorem sh2L_cons {n : Nat} {x : V} {r : List V} : sh2L n (x :: r) = V.shift2 n x :: sh2L n r := rfl
theorem ren_agg {f : Nat → Nat} {cs : List V} : V.ren f (.agg cs) = .agg (cs.map (V.ren1 f)) := rfl
attribute [go_sem] sh_tup sh_agg sh_d sh_ref sh2_agg sh2_d sh2_ref sh2_msl sh1_d sh1_ref sh1_msl sh1L_nil sh1L_cons sh2L_nil sh2L_cons
/-- A call that hands out objects. -/
theorem nPn {C : Call} {n : FuncId} {vs : List V} {r : V} {N : List Ob} {P Q : Prop} (hc : C n vs [] r N) (h2 : Q) (e : C n vs [] r N → Q → P := by
  intro a b
  first
  | (refine wCN (by simp -implicitDefEqProofs (disch := omega) only [callV, go_sem]; first | done | exact rfl | fail) a rfl rfl ?_; refine Eq.mpr ?_ b; simp -implicitDefEqProofs (disch := omega) only [go_sem]; exact rfl)
  | (refine wCN0 (by simp -implicitDefEqProofs (disch := omega) only [callV, go_sem]; first | done | exact rfl | fail) a rfl rfl ?_; refine Eq.mpr ?_ b; simp -implicitDefEqProofs (disch := omega) only [go_sem]; exact rfl)
  | fail) : P := e hc h2
/-- A call that works on the caller's objects. -/
theorem nPm {C : Call} {n : FuncId} {vs : List V} {os os' : List Ob} {r : V} {P Q : Prop} (hc : C n vs os r os') (h2 : Q) (e : C n vs os r os' → Q → P := by
  intro a b
  first
  | (refine wCm (by simp -implicitDefEqProofs (disch := omega) only [calleeR, go_sem]; first | done | exact rfl | fail) a ?_; refine Eq.mpr ?_ b; simp -implicitDefEqProofs (disch := omega) only [go_sem]; exact rfl)
  | (refine wCm0 (by simp -implicitDefEqProofs (disch := omega) only [calleeR, go_sem]; first | done | exact rfl | fail) a ?_; refine Eq.mpr ?_ b; simp -implicitDefEqProofs (disch := omega) only [go_sem]; exact rfl)
  | fail) : P := e hc h2
/-- Elements without memory in them. -/
class FlatE {α : Type} (f : α → D) : Prop where
  h : ∀ a, ((f a).cells.all D.fl1) = true
instance : FlatE D.i := ⟨fun _ => rfl⟩
instance : FlatE D.s := ⟨fun _ => rfl⟩
instance : FlatE D.b := ⟨fun _ => rfl⟩
theorem FlatE.all {α : Type} {f : α → D} [h : FlatE f] (l : List α) : ((l.map f).all fun e => e.cells.all D.fl1) = true := by
  rw [List.all_eq_true]; intro x hx; obtain ⟨a, _, rfl⟩ := List.mem_map.1 hx; exact h.h a
theorem own_arrM {α : Type} {f : α → D} [FlatE f] {sz : Nat} {l : List α} : Ob.own (.arr sz (l.map f) false) = true := FlatE.all l
theorem own_tree {sz : Nat} {l : List D} : Ob.own (.tree sz (l.map .d)) = true := by simp only [Ob.own, allD_map, Option.isSome_some]
theorem own_dead : Ob.own .dead = true := rfl
/-- A call that reads what it is handed for the time of the call, and hands out what is its own. -/
theorem nPt {C : Call} {n : FuncId} {vs : List V} {r : V} {N : List Ob} {P Q : Prop} (hc : C n vs [] r N) (h2 : Q) (e : C n vs [] r N → Q → P := by
  intro a b
  first
  | (refine wCt (by simp -implicitDefEqProofs (disch := omega) only [callV, go_sem]; first | done | exact rfl | fail) a (by simp only [List.all_cons, List.all_nil, own_tree, own_arrM, own_dead, Bool.and_true]; first | done | fail) rfl ?_; refine Eq.mpr ?_ b; simp -implicitDefEqProofs (disch := omega) only [go_sem]; exact rfl)
  | (refine wCt (by simp -implicitDefEqProofs (disch := omega) only [callV, go_sem]; first | done | exact rfl | fail) a rfl rfl ?_; refine Eq.mpr ?_ b; simp -implicitDefEqProofs (disch := omega) only [go_sem]; exact rfl)
  | (refine wCt0 (by simp -implicitDefEqProofs (disch := omega) only [callV, go_sem]; first | done | exact rfl | fail) a (by simp only [List.all_cons, List.all_nil, own_tree, own_arrM, own_dead, Bool.and_true]; first | done | fail) rfl ?_; refine Eq.mpr ?_ b; simp -implicitDefEqProofs (disch := omega) only [go_sem]; exact rfl)
  | (refine wCt0 (by simp -implicitDefEqProofs (disch := omega) only [callV, go_sem]; first | done | exact rfl | fail) a rfl rfl ?_; refine Eq.mpr ?_ b; simp -implicitDefEqProofs (disch := omega) only [go_sem]; exact rfl)
  | fail) : P := e hc h2
end Go.PL

/- PlSrc -/
/- Frames with a place that is told: methods of a pointer to a struct of three cells of data. -/
namespace Go.PL
open Go
theorem blt_mono {o n m : Nat} (h : Nat.blt o n = true) (hm : n ≤ m) : Nat.blt o m = true := by
  rw [Nat.blt_eq] at h ⊢; omega
theorem V.bnd1_mono {n m : Nat} (hm : n ≤ m) : ∀ {v : V}, V.bnd1 n v = true → V.bnd1 m v = true
  | .d _, _ => rfl
  | .any, _ => rfl
  | .ref .., h => blt_mono h hm
  | .msl .., h => blt_mono h hm
  | .agg _, h => by cases h
  | .fn .., h => by cases h
  | .tup _, h => by cases h
theorem all_mono {α : Type} {p q : α → Bool} {l : List α} (h : ∀ x, p x = true → q x = true) (hl : l.all p = true) : l.all q = true := by
  rw [List.all_eq_true] at hl ⊢; exact fun x hx => h x (hl x hx)
theorem V.bnd_mono {n m : Nat} (hm : n ≤ m) {v : V} (h : V.bnd n v = true) : V.bnd m v = true := by
  cases v with
  | agg cs => exact all_mono (fun _ => V.bnd1_mono hm) h
  | fn f a b =>
    simp only [V.bnd, Bool.and_eq_true] at h ⊢
    exact ⟨all_mono (fun _ => V.bnd1_mono hm) h.1, all_mono (fun _ => V.bnd1_mono hm) h.2⟩
  | d x => rfl
  | ref o i j => exact V.bnd1_mono (v := .ref o i j) hm h
  | msl o i j => exact V.bnd1_mono (v := .msl o i j) hm h
  | tup cs => exact V.bnd1_mono (v := .tup cs) hm h
  | any => rfl
theorem Ob.bnd_mono {n m : Nat} (hm : n ≤ m) {x : Ob} (h : Ob.bnd n x = true) : Ob.bnd m x = true := by
  cases x with
  | var cs fz => exact all_mono (fun _ => V.bnd_mono hm) h
  | arr => rfl
  | dead => rfl
  | tree sz es => exact all_mono (fun _ => V.bnd_mono hm) h
theorem kill1_bnd {n k : Nat} (hk : n ≤ k) : ∀ {v : V}, V.bnd1 n v = true → kill1 k v = v
  | .d _, _ => rfl
  | .any, _ => rfl
  | .ref o i j, h => by
    have : Nat.beq o k = false := by
      rw [Bool.eq_false_iff]; intro e
      have := Nat.eq_of_beq_eq_true e
      simp only [V.bnd1, Nat.blt_eq] at h; omega
    simp [kill1, this]
  | .msl o i j, h => by
    have : Nat.beq o k = false := by
      rw [Bool.eq_false_iff]; intro e
      have := Nat.eq_of_beq_eq_true e
      simp only [V.bnd1, Nat.blt_eq] at h; omega
    simp [kill1, this]
  | .agg _, h => by cases h
  | .fn .., h => by cases h
  | .tup _, h => by cases h
theorem map_same {α : Type} {f : α → α} : ∀ {l : List α}, (∀ x ∈ l, f x = x) → l.map f = l
  | [], _ => rfl
  | x :: r, h => by rw [List.map_cons, h x (by simp), map_same fun y hy => h y (by simp [hy])]
theorem killL_bnd {n k : Nat} (hk : n ≤ k) {l : List V} (h : l.all (V.bnd1 n) = true) : l.map (kill1 k) = l := by
  rw [List.all_eq_true] at h
  exact map_same fun x hx => kill1_bnd hk (h x hx)
theorem kill_bnd {n k : Nat} (hk : n ≤ k) {v : V} (h : V.bnd n v = true) : PL.kill k v = v := by
  cases v with
  | agg cs => show V.agg (cs.map _) = _; rw [killL_bnd hk h]
  | fn f a b =>
    simp only [V.bnd, Bool.and_eq_true] at h
    show V.fn f (a.map _) (b.map _) = _
    rw [killL_bnd hk h.1, killL_bnd hk h.2]
  | d x => rfl
  | ref o i j => exact kill1_bnd (v := .ref o i j) hk h
  | msl o i j => exact kill1_bnd (v := .msl o i j) hk h
  | tup cs => cases h
  | any => rfl
theorem Ob.kill_bnd {n k : Nat} (hk : n ≤ k) {x : Ob} (h : Ob.bnd n x = true) : Ob.kill k x = x := by
  cases x with
  | var cs fz =>
    show Ob.var (cs.map _) fz = _
    have h' : cs.all (V.bnd n) = true := h
    rw [List.all_eq_true] at h'
    rw [map_same fun v hv => PL.kill_bnd hk (h' v hv)]
  | arr => rfl
  | dead => rfl
  | tree sz es =>
    show Ob.tree sz (es.map _) = _
    have h' : es.all (V.bnd n) = true := h
    rw [List.all_eq_true] at h'
    rw [map_same fun v hv => PL.kill_bnd hk (h' v hv)]
theorem modify_app {f : Ob → Ob} : ∀ (a l : List Ob) (k : Nat), (a ++ l).modify (a.length + k) f = a ++ l.modify k f
  | [], l, k => by simp
  | x :: r, l, k => by
    rw [List.length_cons, show r.length + 1 + k = r.length + k + 1 by omega, List.cons_append, List.modify_succ_cons, modify_app r l k]; rfl
theorem killO_bnd {n k : Nat} (hk : n ≤ k) {l : List Ob} (h : l.all (Ob.bnd n) = true) : killO k l = l := by
  rw [killO_eq]
  rw [List.all_eq_true] at h
  exact map_same fun x hx => Ob.kill_bnd hk (h x hx)
theorem all_set' {n : Nat} {os : List Ob} {o : Nat} {X : Ob} (h : os.all (Ob.bnd n) = true) (hx : Ob.bnd n X = true) : (os.set o X).all (Ob.bnd n) = true := by
  rw [List.all_eq_true] at h ⊢
  intro y hy
  rcases List.mem_or_eq_of_mem_set hy with h1 | h1
  · exact h y h1
  · rw [h1]; exact hx
/-- A frame with a place that is told. -/
class Fr (os : List Ob) (o : Nat) : Prop where
  lt : o < os.length
  bd : os.all (Ob.bnd os.length) = true
/-- A struct of three cells of data. -/
abbrev V3 (a b c : D) : Ob := .var [.d a, .d b, .d c] false
section
variable {os : List Ob} {o : Nat}
theorem Fr.g1 (h : Fr os o) : ∀ X, (os.set o X)[o]? = some X := fun X => by rw [List.getElem?_set_self h.lt]
theorem Fr.g2 (h : Fr os o) : ∀ X l, (os.set o X ++ l)[o]? = some X := fun X l => by rw [List.getElem?_append_left (by rw [List.length_set]; exact h.lt), h.g1]
theorem Fr.s1 (_h : Fr os o) : ∀ X Y : Ob, (os.set o X).set o Y = os.set o Y := fun X Y => by simp
theorem Fr.s2 (h : Fr os o) : ∀ (X Y : Ob) l, (os.set o X ++ l).set o Y = os.set o Y ++ l := fun X Y l => by rw [List.set_append_left _ _ (by rw [List.length_set]; exact h.lt), h.s1]
theorem Fr.n0 (_h : Fr os o) : ∀ (X : Ob) l, (os.set o X ++ l)[os.length]? = l[0]? := fun X l => by rw [List.getElem?_append_right (by simp), List.length_set, Nat.sub_self]
theorem Fr.n1 (_h : Fr os o) : ∀ (X : Ob) l k, (os.set o X ++ l)[os.length + k]? = l[k]? := fun X l k => by rw [List.getElem?_append_right (by simp), List.length_set, Nat.add_sub_cancel_left]
theorem Fr.t0 (_h : Fr os o) : ∀ (X Y : Ob) l, (os.set o X ++ l).set os.length Y = os.set o X ++ l.set 0 Y := fun X Y l => by rw [List.set_append_right _ _ (by simp), List.length_set, Nat.sub_self]
theorem Fr.t1 (_h : Fr os o) : ∀ (X Y : Ob) l k, (os.set o X ++ l).set (os.length + k) Y = os.set o X ++ l.set k Y := fun X Y l k => by rw [List.set_append_right _ _ (by simp), List.length_set, Nat.add_sub_cancel_left]
theorem Fr.l0 (_h : Fr os o) : ∀ X : Ob, (os.set o X).length = os.length := fun X => List.length_set
theorem Fr.l1 (_h : Fr os o) : ∀ (X : Ob) l, (os.set o X ++ l).length = os.length + l.length := fun X l => by rw [List.length_append, List.length_set]
theorem Fr.kA (h : Fr os o) {k : Nat} (hk : os.length ≤ k) {a b c : D} {l : List Ob} : killO k (os.set o (V3 a b c) ++ l) = os.set o (V3 a b c) ++ killO k l := by
  rw [killO_eq, List.map_append, ← killO_eq, ← killO_eq, killO_bnd hk (all_set' h.bd rfl)]
theorem Fr.k0 (h : Fr os o) : ∀ a b c l, killO os.length (os.set o (V3 a b c) ++ l) = os.set o (V3 a b c) ++ killO os.length l := fun _ _ _ _ => h.kA (Nat.le_refl _)
theorem Fr.k1 (h : Fr os o) : ∀ a b c l k, killO (os.length + k) (os.set o (V3 a b c) ++ l) = os.set o (V3 a b c) ++ killO (os.length + k) l := fun _ _ _ _ _ => h.kA (by omega)
theorem Fr.m1 (_h : Fr os o) : ∀ (X : Ob) l k, (os.set o X ++ l).modify (os.length + k) Ob.fz = os.set o X ++ l.modify k Ob.fz := fun X l k => by
  have := modify_app (f := Ob.fz) (os.set o X) l k
  rwa [List.length_set] at this
theorem Fr.m0 (h : Fr os o) : ∀ (X : Ob) l, (os.set o X ++ l).modify os.length Ob.fz = os.set o X ++ l.modify 0 Ob.fz := fun X l => h.m1 X l 0
theorem Fr.b0 (_h : Fr os o) : (os.length == os.length) = true := by simp
theorem Fr.b1 (_h : Fr os o) : ∀ k, (os.length == os.length + (k + 1)) = false := fun k => by simp
theorem Fr.b2 (_h : Fr os o) : ∀ k, (os.length + (k + 1) == os.length) = false := fun k => by simp
theorem Fr.b3 (h : Fr os o) : (o == os.length) = false := by have := h.lt; simp; omega
theorem Fr.b4 (h : Fr os o) : ∀ k, (o == os.length + k) = false := fun k => by have := h.lt; simp; omega
theorem Fr.b5 (_h : Fr os o) : ∀ j k, (os.length + j == os.length + k) = (j == k) := fun j k => by rw [Bool.eq_iff_iff]; simp
theorem Fr.cut (h : Fr os o) {env env' : List (Nat × V)} {a b c : D} {L l tl : List Ob} (he : sub env env') (h1 : (env'.all fun p => p.2.bnd (os.length + l.length)) = true) (h2 : (l.all (Ob.bnd (os.length + l.length))) = true) (ho : L = l ++ tl := by exact rfl) :
    Weak os.length ⟨env, os.set o (V3 a b c) ++ L⟩ ⟨env', os.set o (V3 a b c) ++ l⟩ := by
  subst ho
  refine .drop tl (by simp) he (by simp) (by rw [List.length_append, List.length_set]; exact h1) ?_
  rw [List.all_append, Bool.and_eq_true, List.length_append, List.length_set]
  exact ⟨all_mono (fun _ => Ob.bnd_mono (by omega)) (all_set' (X := V3 a b c) h.bd rfl), h2⟩
theorem Fr.set (h : Fr os o) {X : Ob} (hx : Ob.bnd os.length X = true) : Fr (os.set o X) o := ⟨by rw [List.length_set]; exact h.lt, by rw [List.length_set]; exact all_set' h.bd hx⟩
theorem Fr.app (h : Fr os o) {l : List Ob} (hl : l.all (Ob.bnd (os.length + l.length)) = true) : Fr (os ++ l) o := ⟨by rw [List.length_append]; have := h.lt; omega, by
  rw [List.all_append, Bool.and_eq_true, List.length_append]
  exact ⟨all_mono (fun _ => Ob.bnd_mono (by omega)) h.bd, hl⟩⟩
end
/-- Arrays alone. -/
class ArrL (l : List Ob) : Prop where
  h : ∀ n, l.all (Ob.bnd n) = true
instance : ArrL [] := ⟨fun _ => rfl⟩
instance {sz : Nat} {es : List D} {fz : Bool} {l : List Ob} [h : ArrL l] : ArrL (.arr sz es fz :: l) := ⟨fun n => by rw [List.all_cons, h.h n]; rfl⟩
/-- Cells of data alone. -/
class VDs (cs : List V) : Prop where
  h : ∀ n, cs.all (V.bnd n) = true
instance : VDs [] := ⟨fun _ => rfl⟩
instance {x : D} {r : List V} [h : VDs r] : VDs (.d x :: r) := ⟨fun n => by rw [List.all_cons, h.h n]; rfl⟩
instance {cs : List V} {fz : Bool} {l : List Ob} [k : VDs cs] [h : ArrL l] : ArrL (.var cs fz :: l) := ⟨fun n => by rw [List.all_cons, h.h n]; show (cs.all (V.bnd n) && true) = true; rw [k.h n]; rfl⟩
section
variable {os : List Ob} {o : Nat} [h : Fr os o]
instance {a b c : D} : Fr (os.set o (V3 a b c)) o := h.set rfl
instance {l : List Ob} [k : ArrL l] : Fr (os ++ l) o := h.app (k.h _)
theorem fg1 {X : Ob} : (os.set o X)[o]? = some X := h.g1 X
theorem fg2 {X : Ob} {l : List Ob} : (os.set o X ++ l)[o]? = some X := h.g2 X l
theorem fs1 {X Y : Ob} : (os.set o X).set o Y = os.set o Y := h.s1 X Y
theorem fs2 {X Y : Ob} {l : List Ob} : (os.set o X ++ l).set o Y = os.set o Y ++ l := h.s2 X Y l
theorem fn0 {X : Ob} {l : List Ob} : (os.set o X ++ l)[os.length]? = l[0]? := h.n0 X l
theorem fn1 {X : Ob} {l : List Ob} {k : Nat} : (os.set o X ++ l)[os.length + k]? = l[k]? := h.n1 X l k
theorem ft0 {X Y : Ob} {l : List Ob} : (os.set o X ++ l).set os.length Y = os.set o X ++ l.set 0 Y := h.t0 X Y l
theorem ft1 {X Y : Ob} {l : List Ob} {k : Nat} : (os.set o X ++ l).set (os.length + k) Y = os.set o X ++ l.set k Y := h.t1 X Y l k
theorem fl0 {X : Ob} : (os.set o X).length = os.length := h.l0 X
theorem fl1 {X : Ob} {l : List Ob} : (os.set o X ++ l).length = os.length + l.length := h.l1 X l
theorem fk0 {a b c : D} {l : List Ob} : killO os.length (os.set o (V3 a b c) ++ l) = os.set o (V3 a b c) ++ killO os.length l := h.k0 a b c l
theorem fk1 {a b c : D} {l : List Ob} {k : Nat} : killO (os.length + k) (os.set o (V3 a b c) ++ l) = os.set o (V3 a b c) ++ killO (os.length + k) l := h.k1 a b c l k
theorem fm0 {X : Ob} {l : List Ob} : (os.set o X ++ l).modify os.length Ob.fz = os.set o X ++ l.modify 0 Ob.fz := h.m0 X l
theorem fm1 {X : Ob} {l : List Ob} {k : Nat} : (os.set o X ++ l).modify (os.length + k) Ob.fz = os.set o X ++ l.modify k Ob.fz := h.m1 X l k
theorem fb3 : (o == os.length) = false := h.b3
theorem fb4 {k : Nat} : (o == os.length + k) = false := h.b4 k
end
theorem fb0 {n : Nat} : (n == n) = true := by simp
theorem fb1 {n k : Nat} : (n == n + (k + 1)) = false := by simp
theorem fb2 {n k : Nat} : (n + (k + 1) == n) = false := by simp
theorem fb5 {n j k : Nat} : (n + j == n + k) = (j == k) := by rw [Bool.eq_iff_iff]; simp
theorem fbo1 {n : Nat} : (n == n + 1) = false := by simp
theorem fbo2 {n : Nat} : (n + 1 == n) = false := by simp
theorem fbo3 {n : Nat} : (n == n + 2) = false := by simp
theorem fbo4 {n : Nat} : (n + 2 == n) = false := by simp
theorem pair_eta {α β : Type} {p : α × β} : (p.1, p.2) = p := rfl
attribute [go_sem] pair_eta fg1 fg2 fs1 fs2 fn0 fn1 ft0 ft1 fl0 fl1 fk0 fk1 fm0 fm1 fb3 fb4 fb0 fb5 fbo1 fbo2 fbo3 fbo4
/-- A method of such a pointer, by what it does to the three cells. -/
class ConS (C : Call) (n : FuncId) (vs : List V) (a b c : D) (pre : outParam Prop) (r : outParam V) (a' b' c' : outParam D) : Prop where
  ok : ∀ os o, Fr os o → pre → C n (.ref o 0 0 :: vs) (os.set o (V3 a b c)) r (os.set o (V3 a' b' c'))
section
variable {T : Tab} {C : Call} {nF : Nat} {env : List (Nat × V)} {os : List Ob} {K : St → Prop} {f : Operand} {args : List Operand} {ats : Array TypeId} {n : FuncId} {vs : List V} {o : Nat} {a b c a' b' c' : D} {pre : Prop} {r : V} {d : Tmp}
theorem set_same {os : List Ob} {o : Nat} {X : Ob} (h : os[o]? = some X) : os.set o X = os := by
  obtain ⟨hlt, rfl⟩ := List.getElem?_eq_some_iff.1 h
  simp
theorem wS3 (e : calleeR (ev env f) (evL env args) = some (n, .ref o 0 0 :: vs)) (e2 : os[o]? = some (V3 a b c)) (i : ConS C n vs a b c pre r a' b' c') (hF : Fr os o) (hp : pre) (k : K ⟨(d, r) :: env, os.set o (V3 a' b' c')⟩) :
    op1R T C nF (some d) (.call { callee := .value f, args := args.toArray, argTypes := ats }) ⟨env, os⟩ K := by
  have h := i.ok os o hF hp
  rw [set_same e2] at h
  exact wCm e h k
end
/-- A call of a method of such a pointer. -/
theorem nPs {P pre Q : Prop} (h : pre) (h2 : Q) (e : pre → Q → P := by
  intro b c
  first
  | (refine wS3 (by simp -implicitDefEqProofs (disch := omega) only [calleeR, go_sem]; first | done | exact rfl | fail) (by simp -implicitDefEqProofs (disch := omega) only [go_sem]; first | done | exact rfl | fail) inferInstance (by first | infer_instance | exact ⟨by simp, rfl⟩ | fail) b ?_; refine Eq.mpr ?_ c; simp -implicitDefEqProofs (disch := omega) only [go_sem]; exact rfl)
  | fail) : P := e h h2
end Go.PL

/- PlOwn -/
/- Arrays that own what they hold: the steps of a walk over them. -/
namespace Go.PL
open Go
/-- A slice in a tree's cell, taken out of it: where it has no elements there is no object. -/
def uV (q n : Nat) : V := if n = 0 then .d (.sl []) else .msl q 0 n
def uA (sz : Nat) (xs : List D) : Ob := if xs.length = 0 then .dead else .arr sz xs false
def uT (sz : Nat) (xs : List D) : Ob := if xs.length = 0 then .dead else .tree sz (xs.map .d)
theorem uV_pos {q n : Nat} (h : n ≠ 0) : uV q n = .msl q 0 n := if_neg h
theorem uA_pos {sz : Nat} {xs : List D} (h : xs.length ≠ 0) : uA sz xs = .arr sz xs false := if_neg h
theorem uT_pos {sz : Nat} {xs : List D} (h : xs.length ≠ 0) : uT sz xs = .tree sz (xs.map .d) := if_neg h
theorem uV_cells {q n : Nat} : (uV q n).cells = [uV q n] := by unfold uV; split <;> rfl
theorem uV_one {q n : Nat} : (uV q n).one = true := by unfold uV; split <;> rfl
theorem uV_lo {q n : Nat} : (uV q n).lo = true := by unfold uV; split <;> rfl
theorem uA_bnd {sz m : Nat} {xs : List D} : Ob.bnd m (uA sz xs) = true := by unfold uA; split <;> rfl
theorem uT_bnd {sz m : Nat} {xs : List D} : Ob.bnd m (uT sz xs) = true := by
  unfold uT; split
  · rfl
  · simp [Ob.bnd, V.bnd, V.bnd1]
theorem tree_bnd {sz m : Nat} {xs : List D} : Ob.bnd m (.tree sz (xs.map .d)) = true := by simp [Ob.bnd, V.bnd, V.bnd1]
theorem gv_set {es : List V} {i : Nat} {v : V} (h : i < es.length) : gv (es.set i v) i = v := by simp [gv, h]
theorem treeF_set {ds : List D} {i j n : Nat} {v : V} {I : TI} (h : i < ds.length) : treeF ((ds.map .d).set i v) i j n I = some (j + n ≤ v.cells.length ∧ ((v.cells.drop j).take n).all V.lo = true, ofCells I.agg (v.cells.drop j) I.size) := by
  simp only [treeF, gv_set (show i < (ds.map V.d).length by simpa using h), List.length_set, List.length_map, h, true_and]
theorem treeG_set {ds : List D} {i j n : Nat} {v : V} {xs : List V} {F : List V → List Ob} (h : i < ds.length) :
    treeG ((ds.map .d).set i v) i j n xs F = some ((xs.length = n ∧ xs.all V.one = true) ∧ xs.all V.lo = true ∧ j + n ≤ v.cells.length ∧ 0 < n, .any, F ((ds.map .d).set i (setV v j xs))) := by
  simp only [treeG, gv_set (show i < (ds.map V.d).length by simpa using h), List.length_set, List.length_map, h, true_and, List.set_set]
theorem setV_agg {cs xs : List V} {j : Nat} : setV (.agg cs) j xs = .agg (setRange cs j xs) := rfl
theorem setV_dagg {cs : List D} {xs : List V} {j : Nat} : setV (.d (.agg cs)) j xs = .agg (setRange (cs.map .d) j xs) := rfl
theorem lo_d {x : D} : V.lo (.d x) = x.fl1 := rfl
theorem lo_msl {o a b : Nat} : V.lo (.msl o a b) = true := rfl
theorem fl_val {v : Value} : D.fl1 (.val v) = true := rfl
theorem fl_nil : D.fl1 (.sl []) = true := rfl
attribute [go_sem] uV_cells uV_one uV_lo treeF_set treeG_set setV_agg lo_d lo_msl fl_val fl_nil allD_map
section
variable {nF : Nat} {env : List (Nat × V)} {os : List Ob}
theorem Weak.refl {s : St} : Weak nF s s := Weak.fz []
theorem set_self {es : List V} {i : Nat} {v : V} (h : es[i]? = some v) : es.set i v = es := by
  obtain ⟨hlt, rfl⟩ := List.getElem?_eq_some_iff.1 h
  simp
theorem setV_same {v : V} {cs : List V} {j : Nat} {y : V} (hv : v = .agg cs) (h : cs[j]? = some y) : setV v j [y] = v := by
  subst hv
  obtain ⟨hlt, rfl⟩ := List.getElem?_eq_some_iff.1 h
  simp only [setV, V.isAgg, cond_true, setRange, V.cells, List.length_cons, List.length_nil]
  congr 1
  rw [List.append_assoc, List.singleton_append, Nat.zero_add, ← List.drop_eq_getElem_cons hlt, List.take_append_drop]
/-- The element's cells, laid open. -/
theorem Weak.open {o i sz : Nat} {ds cs : List D} (ho : os[o]? = some (.tree sz (ds.map .d))) (hi : i < ds.length) (hc : ds[i] = .agg cs) :
    Weak nF ⟨env, os⟩ ⟨env, os.set o (.tree sz ((ds.map .d).set i (.agg (cs.map .d))))⟩ := by
  refine Weak.tc (s := ⟨env, os⟩) o ho ?_
  apply List.ext_getElem (by simp)
  intro n h1 h2
  simp only [List.length_map] at h1
  simp only [List.getElem_map, List.getElem_set]
  split
  · rename_i e; subst e; rw [hc]; rfl
  · rfl
/-- The element's cells, put together. -/
theorem Weak.shut {o i sz : Nat} {ds cs : List D} (ho : os[o]? = some (.tree sz ((ds.map .d).set i (.agg (cs.map .d))))) :
    Weak nF ⟨env, os⟩ ⟨env, os.set o (.tree sz ((ds.set i (.agg cs)).map .d))⟩ := by
  refine Weak.tc (s := ⟨env, os⟩) o ho ?_
  apply List.ext_getElem (by simp)
  intro n h1 h2
  simp only [List.length_map, List.length_set] at h1
  simp only [List.getElem_map, List.getElem_set]
  split
  · rfl
  · rfl
/-- A slice is taken out of a cell. -/
theorem Weak.unT {o i j sz n : Nat} {ds : List D} {cs : List V} {xs : List D} (ho : os[o]? = some (.tree sz ((ds.map .d).set i (.agg cs)))) (hi : i < ds.length) (hv : cs[j]? = some (.d (.sl xs))) (hn : ∀ x ∈ xs, x.cells.length = n) :
    Weak nF ⟨env, os⟩ ⟨env, os.set o (.tree sz ((ds.map .d).set i (setV (.agg cs) j [uV os.length xs.length]))) ++ [uT n xs]⟩ := by
  by_cases h0 : xs.length = 0
  · have hx : xs = [] := List.eq_nil_of_length_eq_zero h0
    subst hx
    have e1 : setV (.agg cs) j [uV os.length ([] : List D).length] = .agg cs := setV_same rfl (by rw [hv]; rfl)
    rw [e1, set_same ho]
    exact Weak.dead (s := ⟨env, os⟩)
  · have hx : xs ≠ [] := fun e => h0 (by rw [e]; rfl)
    have hg : gv ((ds.map .d).set i (.agg cs)) i = .agg cs := gv_set (by simpa using hi)
    have := Weak.unfold (nF := nF) (s := ⟨env, os⟩) o i j (n := n) ho (by simpa using hi) (by rw [hg]; exact hv) hx hn
    rw [hg, List.set_set] at this
    rw [uV_pos h0, uT_pos h0]
    exact this
theorem Weak.unA {o i j sz : Nat} {ds : List D} {cs : List V} {xs : List D} (ho : os[o]? = some (.tree sz ((ds.map .d).set i (.agg cs)))) (hol : o < os.length) (hi : i < ds.length) (hv : cs[j]? = some (.d (.sl xs))) (hn : ∀ x ∈ xs, x.cells.length = 1) (hf : (xs.all fun e => e.cells.all D.fl1) = true) :
    Weak nF ⟨env, os⟩ ⟨env, os.set o (.tree sz ((ds.map .d).set i (setV (.agg cs) j [uV os.length xs.length]))) ++ [uA 1 xs]⟩ := by
  refine (Weak.unT ho hi hv hn).trans ?_
  by_cases h0 : xs.length = 0
  · have hx : xs = [] := List.eq_nil_of_length_eq_zero h0
    subst hx
    exact Weak.refl
  · rw [uT_pos h0, uA_pos h0]
    have := Weak.ofTree (nF := nF) (s := ⟨env, os.set o (.tree sz ((ds.map .d).set i (setV (.agg cs) j [uV os.length xs.length]))) ++ [.tree 1 (xs.map .d)]⟩) os.length (sz := 1) (es := xs) (by simp) hf
    simp only [List.length_set, Nat.le_refl, List.set_append_right, Nat.sub_self, List.set_cons_zero] at this
    exact this
/-- It goes back into it. -/
theorem Weak.foT {o i j q sz n : Nat} {ds : List D} {cs : List V} {xs : List D} (ho : os[o]? = some (.tree sz ((ds.map .d).set i (.agg cs)))) (hi : i < ds.length) (hv : cs[j]? = some (uV q xs.length)) (hq : os[q]? = some (uT n xs)) (hne : q ≠ o) :
    Weak nF ⟨env, os⟩ ⟨env, (os.set o (.tree sz ((ds.map .d).set i (setV (.agg cs) j [.d (.sl xs)])))).set q .dead⟩ := by
  by_cases h0 : xs.length = 0
  · have hx : xs = [] := List.eq_nil_of_length_eq_zero h0
    subst hx
    have e1 : setV (.agg cs) j [.d (.sl [])] = .agg cs := setV_same rfl (by rw [hv]; rfl)
    rw [e1, set_same ho, set_same (X := .dead) hq]
    exact Weak.refl
  · rw [uV_pos h0] at hv
    rw [uT_pos h0] at hq
    have hg : gv ((ds.map .d).set i (.agg cs)) i = .agg cs := gv_set (by simpa using hi)
    have := Weak.fold (nF := nF) (s := ⟨env, os⟩) o i j q xs.length (n := n) (xs := xs) ho (by simpa using hi) (by rw [hg]; exact hv) (Nat.le_refl _) hq hne
    rw [hg, List.set_set, List.take_length] at this
    exact this
theorem Weak.foA {o i j q sz : Nat} {ds : List D} {cs : List V} {xs : List D} (ho : os[o]? = some (.tree sz ((ds.map .d).set i (.agg cs)))) (hi : i < ds.length) (hv : cs[j]? = some (uV q xs.length)) (hq : os[q]? = some (uA 1 xs)) (hne : q ≠ o) (hf : (xs.all fun e => e.cells.all D.fl1) = true) :
    Weak nF ⟨env, os⟩ ⟨env, (os.set o (.tree sz ((ds.map .d).set i (setV (.agg cs) j [.d (.sl xs)])))).set q .dead⟩ := by
  by_cases h0 : xs.length = 0
  · have hx : xs = [] := List.eq_nil_of_length_eq_zero h0
    subst hx
    have hq' : os[q]? = some (uT 1 []) := hq
    exact Weak.foT ho hi hv hq' hne
  · have hq2 := hq
    rw [uA_pos h0] at hq
    have t := Weak.toTree (nF := nF) (s := ⟨env, os⟩) q hq hf
    refine t.trans ?_
    have ho2 : (os.set q (.tree 1 (xs.map .d)))[o]? = some (.tree sz ((ds.map .d).set i (.agg cs))) := by rw [List.getElem?_set_ne hne]; exact ho
    have hlt := (List.getElem?_eq_some_iff.1 hq).1
    have := Weak.foT (nF := nF) (env := env) (n := 1) ho2 hi hv (by rw [uT_pos h0]; rw [List.getElem?_set_self hlt]) hne
    rw [List.set_comm _ _ hne, List.set_set] at this
    exact this
/-- A new array's slice goes into a cell. -/
theorem Weak.inA {o i j q len sz : Nat} {ds : List D} {cs : List V} {xs : List D} (ho : os[o]? = some (.tree sz ((ds.map .d).set i (.agg cs)))) (hi : i < ds.length) (hv : cs[j]? = some (.msl q 0 len)) (hl : len ≤ xs.length) (hq : os[q]? = some (.arr 1 xs false)) (hne : q ≠ o) (hf : (xs.all fun e => e.cells.all D.fl1) = true) :
    Weak nF ⟨env, os⟩ ⟨env, (os.set o (.tree sz ((ds.map .d).set i (setV (.agg cs) j [.d (.sl (xs.take len))])))).set q .dead⟩ := by
  have t := Weak.toTree (nF := nF) (s := ⟨env, os⟩) q hq hf
  refine t.trans ?_
  have hlt := (List.getElem?_eq_some_iff.1 hq).1
  have ho2 : (os.set q (.tree 1 (xs.map .d)))[o]? = some (.tree sz ((ds.map .d).set i (.agg cs))) := by rw [List.getElem?_set_ne hne]; exact ho
  have hg : gv ((ds.map .d).set i (.agg cs)) i = .agg cs := gv_set (by simpa using hi)
  have := Weak.fold (nF := nF) (s := ⟨env, os.set q (.tree 1 (xs.map .d))⟩) o i j q len (n := 1) (xs := xs) ho2 (by simpa using hi) (by rw [hg]; exact hv) hl (by rw [List.getElem?_set_self hlt]) hne
  rw [hg, List.set_set, List.set_comm _ _ hne, List.set_set] at this
  exact this
theorem Weak.inT {o i j q len sz n : Nat} {ds : List D} {cs : List V} {xs : List D} (ho : os[o]? = some (.tree sz ((ds.map .d).set i (.agg cs)))) (hi : i < ds.length) (hv : cs[j]? = some (.msl q 0 len)) (hl : len ≤ xs.length) (hq : os[q]? = some (.tree n (xs.map .d))) (hne : q ≠ o) :
    Weak nF ⟨env, os⟩ ⟨env, (os.set o (.tree sz ((ds.map .d).set i (setV (.agg cs) j [.d (.sl (xs.take len))])))).set q .dead⟩ := by
  have hg : gv ((ds.map .d).set i (.agg cs)) i = .agg cs := gv_set (by simpa using hi)
  have := Weak.fold (nF := nF) (s := ⟨env, os⟩) o i j q len (n := n) (xs := xs) ho (by simpa using hi) (by rw [hg]; exact hv) hl hq hne
  rw [hg, List.set_set] at this
  exact this
end
end Go.PL

/- PlOwn2 -/
/- Arrays of rationals and of records that own what they hold: an element is laid open, and put together. -/
namespace Go.PL
open Go
theorem i_flat {xs : List Int} : ((xs.map D.i).all fun e => e.cells.all D.fl1) = true := FlatE.all xs
theorem i_one {xs : List Int} : ∀ x ∈ xs.map D.i, x.cells.length = 1 := by intro x hx; obtain ⟨a, _, rfl⟩ := List.mem_map.1 hx; rfl
theorem V.ren_id {f : Nat → Nat} {xs : List D} : (xs.map V.d).map (V.ren f) = xs.map .d := by rw [List.map_map]; rfl
theorem oren_tree {f : Nat → Nat} {sz : Nat} {xs : List D} : Ob.ren f (.tree sz (xs.map .d)) = .tree sz (xs.map .d) := by simp only [Ob.ren, V.ren_id]
theorem fz_tree {sz : Nat} {xs : List D} : Ob.fz (.tree sz (xs.map .d)) = .arr sz xs true := by simp only [Ob.fz, allD_map]
theorem okill_tree {k sz : Nat} {xs : List D} : Ob.kill k (.tree sz (xs.map .d)) = .tree sz (xs.map .d) := by
  have : (xs.map V.d).map (PL.kill k) = xs.map .d := by rw [List.map_map]; rfl
  simp only [Ob.kill, this]
attribute [go_sem] oren_tree fz_tree okill_tree
theorem asD_tree {os : List Ob} {o a b sz : Nat} {xs : List D} (h : os[o]? = some (.tree sz (xs.map .d))) : asD os (.msl o a b) = .msl o a b := by
  simp only [asD, leaf, leaf1, leaf0, h, allD_map]
  simp only [List.all_cons, frozen, h, Bool.false_and, cond_false]
theorem asD_rep {a : D} {n m : Nat} {X : List D} {tl : List Ob} : asD (.tree m (X.map .d) :: tl) (.agg [.d a, .msl 0 0 n]) = .agg [.d a, .msl 0 0 n] := by
  simp only [asD, leaf, leaf1, mapL, leaf0, List.getElem?_cons_zero, allD_map, List.nil_append, List.append_nil]
  simp only [List.all_cons, frozen, List.getElem?_cons_zero, Bool.false_and, cond_false]
theorem asD_rec {a b : D} {n0 n1 n2 m : Nat} {g : D} {X u v : List D} {tl : List Ob} : asD (.tree m (X.map .d) :: .arr 1 u false :: .arr 1 v false :: tl) (.agg [.d a, .d b, .msl 0 0 n0, .d g, .msl 1 0 n1, .msl 2 0 n2]) = .agg [.d a, .d b, .msl 0 0 n0, .d g, .msl 1 0 n1, .msl 2 0 n2] := by
  simp only [asD, leaf, leaf1, mapL, leaf0, List.getElem?_cons_zero, List.getElem?_cons_succ, allD_map, List.nil_append, List.append_nil, List.cons_append]
  simp only [List.all_cons, frozen, List.getElem?_cons_zero, Bool.false_and, cond_false]
section
variable {nF : Nat} {env env' : List (Nat × V)} {os l : List Ob} {o : Nat}
theorem f_get (hlt : o < os.length) {X : Ob} : (os.set o X ++ l)[o]? = some X := by rw [List.getElem?_append_left (by simpa using hlt), List.getElem?_set_self hlt]
theorem f_set (hlt : o < os.length) {X Y : Ob} : (os.set o X ++ l).set o Y = os.set o Y ++ l := by rw [List.set_append_left _ _ (by simpa using hlt), List.set_set]
theorem f_new {X : Ob} {k : Nat} : (os.set o X ++ l)[os.length + k]? = l[k]? := by rw [List.getElem?_append_right (by simp), List.length_set, Nat.add_sub_cancel_left]
theorem f_put {X Y : Ob} {k : Nat} : (os.set o X ++ l).set (os.length + k) Y = os.set o X ++ l.set k Y := by rw [List.set_append_right _ _ (by simp), List.length_set, Nat.add_sub_cancel_left]
/-- One more slice is taken out. -/
theorem Weak.unT' {i j sz n k : Nat} {ds : List D} {cs : List V} {xs : List D} (hlt : o < os.length) (hi : i < ds.length) (hk : l.length = k) (hv : cs[j]? = some (.d (.sl xs))) (hn : ∀ x ∈ xs, x.cells.length = n) :
    Weak nF ⟨env, os.set o (.tree sz ((ds.map .d).set i (.agg cs))) ++ l⟩ ⟨env, os.set o (.tree sz ((ds.map .d).set i (.agg (setRange cs j [uV (os.length + k) xs.length])))) ++ (l ++ [uT n xs])⟩ := by
  subst hk
  have := Weak.unT (nF := nF) (env := env) (f_get (l := l) (X := .tree sz ((ds.map .d).set i (.agg cs))) hlt) hi hv hn
  rw [f_set hlt, List.length_append, List.length_set, List.append_assoc] at this
  exact this
theorem Weak.unA' {i j sz k : Nat} {ds : List D} {cs : List V} {xs : List Int} (hlt : o < os.length) (hi : i < ds.length) (hk : l.length = k) (hv : cs[j]? = some (.d (.sl (xs.map .i)))) :
    Weak nF ⟨env, os.set o (.tree sz ((ds.map .d).set i (.agg cs))) ++ l⟩ ⟨env, os.set o (.tree sz ((ds.map .d).set i (.agg (setRange cs j [uV (os.length + k) xs.length])))) ++ (l ++ [uA 1 (xs.map .i)])⟩ := by
  subst hk
  have := Weak.unA (nF := nF) (env := env) (f_get (l := l) (X := .tree sz ((ds.map .d).set i (.agg cs))) hlt) (by simp; omega) hi hv i_one i_flat
  rw [f_set hlt, List.length_append, List.length_set, List.append_assoc, List.length_map] at this
  exact this
theorem Weak.foT' {i j sz n k m : Nat} {ds : List D} {cs : List V} {xs : List D} (hlt : o < os.length) (hi : i < ds.length) (hv : cs[j]? = some (uV (os.length + k) m)) (hm : m = xs.length) (hq : l[k]? = some (uT n xs)) :
    Weak nF ⟨env, os.set o (.tree sz ((ds.map .d).set i (.agg cs))) ++ l⟩ ⟨env, os.set o (.tree sz ((ds.map .d).set i (.agg (setRange cs j [.d (.sl xs)])))) ++ l.set k .dead⟩ := by
  subst hm
  have := Weak.foT (nF := nF) (env := env) (q := os.length + k) (f_get (l := l) (X := .tree sz ((ds.map .d).set i (.agg cs))) hlt) hi hv (by rw [f_new]; exact hq) (by omega)
  rw [f_set hlt, f_put] at this
  exact this
theorem Weak.foA' {i j sz k m : Nat} {ds : List D} {cs : List V} {xs : List Int} (hlt : o < os.length) (hi : i < ds.length) (hv : cs[j]? = some (uV (os.length + k) m)) (hm : m = xs.length) (hq : l[k]? = some (uA 1 (xs.map .i))) :
    Weak nF ⟨env, os.set o (.tree sz ((ds.map .d).set i (.agg cs))) ++ l⟩ ⟨env, os.set o (.tree sz ((ds.map .d).set i (.agg (setRange cs j [.d (.sl (xs.map .i))])))) ++ l.set k .dead⟩ := by
  subst hm
  have := Weak.foA (nF := nF) (env := env) (q := os.length + k) (xs := xs.map .i) (f_get (l := l) (X := .tree sz ((ds.map .d).set i (.agg cs))) hlt) hi (by rw [List.length_map]; exact hv) (by rw [f_new]; exact hq) (by omega) i_flat
  rw [f_set hlt, f_put] at this
  exact this
theorem Weak.inT' {i j sz n k m : Nat} {ds : List D} {cs : List V} {xs : List D} (hlt : o < os.length) (hi : i < ds.length) (hv : cs[j]? = some (.msl (os.length + k) 0 m)) (hm : m ≤ xs.length) (hq : l[k]? = some (.tree n (xs.map .d))) :
    Weak nF ⟨env, os.set o (.tree sz ((ds.map .d).set i (.agg cs))) ++ l⟩ ⟨env, os.set o (.tree sz ((ds.map .d).set i (.agg (setRange cs j [.d (.sl (xs.take m))])))) ++ l.set k .dead⟩ := by
  have := Weak.inT (nF := nF) (env := env) (q := os.length + k) (f_get (l := l) (X := .tree sz ((ds.map .d).set i (.agg cs))) hlt) hi hv hm (by rw [f_new]; exact hq) (by omega)
  rw [f_set hlt, f_put] at this
  exact this
theorem Weak.inA' {i j sz k m : Nat} {ds : List D} {cs : List V} {xs : List Int} (hlt : o < os.length) (hi : i < ds.length) (hv : cs[j]? = some (.msl (os.length + k) 0 m)) (hm : m ≤ xs.length) (hq : l[k]? = some (.arr 1 (xs.map .i) false)) :
    Weak nF ⟨env, os.set o (.tree sz ((ds.map .d).set i (.agg cs))) ++ l⟩ ⟨env, os.set o (.tree sz ((ds.map .d).set i (.agg (setRange cs j [.d (.sl ((xs.take m).map .i))])))) ++ l.set k .dead⟩ := by
  have := Weak.inA (nF := nF) (env := env) (q := os.length + k) (xs := xs.map .i) (f_get (l := l) (X := .tree sz ((ds.map .d).set i (.agg cs))) hlt) hi hv (by simpa using hm) (by rw [f_new]; exact hq) (by omega) i_flat
  rw [f_set hlt, f_put, ← List.map_take] at this
  exact this
theorem Weak.open' {i sz : Nat} {ds cs : List D} (hlt : o < os.length) (hc : ds[i]? = some (.agg cs)) :
    Weak nF ⟨env, os.set o (.tree sz (ds.map .d))⟩ ⟨env, os.set o (.tree sz ((ds.map .d).set i (.agg (cs.map .d)))) ++ []⟩ := by
  obtain ⟨hi, hc⟩ := List.getElem?_eq_some_iff.1 hc
  have := Weak.open (nF := nF) (env := env) (os := os.set o (.tree sz (ds.map .d))) (by rw [List.getElem?_set_self hlt]) hi hc
  rw [List.set_set] at this
  rw [List.append_nil]
  exact this
theorem Weak.shut' {i sz : Nat} {ds cs : List D} (hlt : o < os.length) (hnF : nF ≤ os.length) (hos : os.all (Ob.bnd os.length) = true) (he : sub env env') (henv : (env'.all fun p => p.2.bnd os.length) = true) :
    Weak nF ⟨env, os.set o (.tree sz ((ds.map .d).set i (.agg (cs.map .d)))) ++ l⟩ ⟨env', os.set o (.tree sz ((ds.set i (.agg cs)).map .d))⟩ := by
  have t := Weak.shut (nF := nF) (env := env) (os := os.set o (.tree sz ((ds.map .d).set i (.agg (cs.map .d)))) ++ l) (f_get hlt)
  rw [f_set hlt] at t
  refine t.trans (.drop l (by simpa using hnF) he rfl (by simpa using henv) ?_)
  simp only [List.length_set]
  exact all_set' hos tree_bnd
theorem uV_bnd {q n m : Nat} (h : q < m) : V.bnd1 m (uV q n) = true := by
  unfold uV; split
  · rfl
  · show Nat.blt q m = true; rw [Nat.blt_eq]; exact h
theorem arr_bnd {m sz : Nat} {es : List D} {fz : Bool} : Ob.bnd m (.arr sz es fz) = true := rfl
theorem bnd1_d {n : Nat} {x : D} : V.bnd1 n (.d x) = true := rfl
theorem set_bnd {m i : Nat} {ds : List D} {cs : List V} (hc : cs.all (V.bnd1 m) = true) : ((ds.map V.d).set i (.agg cs)).all (V.bnd m) = true := by
  rw [List.all_eq_true]
  intro y hy
  rcases List.mem_or_eq_of_mem_set hy with h1 | h1
  · obtain ⟨x, _, rfl⟩ := List.mem_map.1 h1; rfl
  · rw [h1]; exact hc
theorem all_tree {i sz : Nat} {ds : List D} {cs : List V} (hb : os.all (Ob.bnd os.length) = true) (hc : cs.all (V.bnd1 (os.length + l.length)) = true) (hl : l.all (Ob.bnd (os.length + l.length)) = true) :
    (os.set o (.tree sz ((ds.map .d).set i (.agg cs))) ++ l).all (Ob.bnd (os.set o (.tree sz ((ds.map .d).set i (.agg cs))) ++ l).length) = true := by
  rw [List.length_append, List.length_set, List.all_append, Bool.and_eq_true]
  refine ⟨?_, hl⟩
  rw [List.all_eq_true]
  intro y hy
  rcases List.mem_or_eq_of_mem_set hy with h1 | h1
  · exact Ob.bnd_mono (by omega) (List.all_eq_true.1 hb y h1)
  · rw [h1]; exact set_bnd hc
section
variable {i : Nat} {ds : List D} {b : Bool} {u v : List Int}
theorem Weak.openR (hlt : o < os.length) (hx : ds[i]? = some (.agg [.b b, .sl (u.map .i), .sl (v.map .i)])) :
    Weak nF ⟨env, os.set o (.tree 3 (ds.map .d))⟩ ⟨env, os.set o (.tree 3 ((ds.map .d).set i (.agg [.d (.b b), uV os.length u.length, uV (os.length + 1) v.length]))) ++ [uA 1 (u.map .i), uA 1 (v.map .i)]⟩ := by
  have hi := (List.getElem?_eq_some_iff.1 hx).1
  refine (Weak.open' hlt hx).trans ?_
  refine (Weak.unA' (j := 1) (k := 0) (xs := u) hlt hi rfl rfl).trans ?_
  exact Weak.unA' (j := 2) (k := 1) (xs := v) hlt hi rfl rfl
theorem Weak.shutR {n1 n2 : Nat} (hlt : o < os.length) (hi : i < ds.length) (h1 : n1 = u.length) (h2 : n2 = v.length) (hnF : nF ≤ os.length) (hos : os.all (Ob.bnd os.length) = true) (he : sub env env') (henv : (env'.all fun p => p.2.bnd os.length) = true) :
    Weak nF ⟨env, os.set o (.tree 3 ((ds.map .d).set i (.agg [.d (.b b), uV os.length n1, uV (os.length + 1) n2]))) ++ [uA 1 (u.map .i), uA 1 (v.map .i)]⟩ ⟨env', os.set o (.tree 3 ((ds.set i (.agg [.b b, .sl (u.map .i), .sl (v.map .i)])).map .d))⟩ := by
  refine (Weak.foA' (j := 1) (k := 0) (xs := u) hlt hi rfl h1 rfl).trans ?_
  refine (Weak.foA' (j := 2) (k := 1) (xs := v) hlt hi rfl h2 rfl).trans ?_
  exact Weak.shut' (cs := [.b b, .sl (u.map .i), .sl (v.map .i)]) hlt hnF hos he henv
theorem Weak.inR {n1 n2 : Nat} (hlt : o < os.length) (hi : i < ds.length) (h1 : n1 ≤ u.length) (h2 : n2 ≤ v.length) (hnF : nF ≤ os.length) (hos : os.all (Ob.bnd os.length) = true) (he : sub env env') (henv : (env'.all fun p => p.2.bnd os.length) = true) :
    Weak nF ⟨env, os.set o (.tree 3 ((ds.map .d).set i (.agg [.d (.b b), .msl os.length 0 n1, .msl (os.length + 1) 0 n2]))) ++ [.arr 1 (u.map .i) false, .arr 1 (v.map .i) false]⟩ ⟨env', os.set o (.tree 3 ((ds.set i (.agg [.b b, .sl ((u.take n1).map .i), .sl ((v.take n2).map .i)])).map .d))⟩ := by
  refine (Weak.inA' (j := 1) (k := 0) (xs := u) hlt hi rfl h1 rfl).trans ?_
  refine (Weak.inA' (j := 2) (k := 1) (xs := v) hlt hi rfl h2 rfl).trans ?_
  exact Weak.shut' (cs := [.b b, .sl ((u.take n1).map .i), .sl ((v.take n2).map .i)]) hlt hnF hos he henv
/-- A rational that was made goes into an array that a walk has made: the array is the first object. -/
theorem Weak.inR0 {n1 n2 : Nat} {rest : List V} (hi : i < ds.length) (h1 : n1 = u.length) (h2 : n2 = v.length) (hr : rest = []) (he : sub env env') (henv : (env'.all fun p => p.2.bnd 1) = true) :
    Weak 0 ⟨env, [.tree 3 ((ds.map .d).set i (.agg (.d (.b b) :: .msl 1 0 n1 :: .msl 2 0 n2 :: rest))), .arr 1 (u.map .i) false, .arr 1 (v.map .i) false]⟩ ⟨env', [.tree 3 ((ds.set i (.agg [.b b, .sl (u.map .i), .sl (v.map .i)])).map .d)]⟩ := by
  subst hr h1 h2
  have := Weak.inR (nF := 0) (o := 0) (os := [.dead]) (i := i) (ds := ds) (b := b) (u := u) (v := v) (n1 := u.length) (n2 := v.length) (env := env) (env' := env') (by simp) hi (Nat.le_refl _) (Nat.le_refl _) (by simp) rfl he henv
  rw [List.take_length, List.take_length] at this
  exact this
variable {X : List D} {x y : Int}
/-- A record that was made goes into an array that a walk has made. -/
theorem Weak.inC0 {n n0 n1 n2 : Nat} {rest : List V} (hi : i < ds.length) (h0 : n0 = X.length) (h1 : n1 = u.length) (h2 : n2 = v.length) (hr : rest = []) (he : sub env env') (henv : (env'.all fun p => p.2.bnd 1) = true) :
    Weak 0 ⟨env, [.tree 6 ((ds.map .d).set i (.agg (.d (.i x) :: .d (.i y) :: .msl 1 0 n0 :: .d (.b b) :: .msl 2 0 n1 :: .msl 3 0 n2 :: rest))), .tree n (X.map .d), .arr 1 (u.map .i) false, .arr 1 (v.map .i) false]⟩
      ⟨env', [.tree 6 ((ds.set i (.agg [.i x, .i y, .sl X, .b b, .sl (u.map .i), .sl (v.map .i)])).map .d)]⟩ := by
  subst hr h0 h1 h2
  have hlt : 0 < [Ob.dead].length := by simp
  have t0 := Weak.inT' (nF := 0) (env := env) (o := 0) (os := [.dead]) (l := [.tree n (X.map .d), .arr 1 (u.map .i) false, .arr 1 (v.map .i) false]) (sz := 6) (cs := [.d (.i x), .d (.i y), .msl 1 0 X.length, .d (.b b), .msl 2 0 u.length, .msl 3 0 v.length]) (j := 2) (k := 0) (xs := X) hlt hi rfl (Nat.le_refl _) rfl
  have t1 := Weak.inA' (nF := 0) (env := env) (o := 0) (os := [.dead]) (l := [.dead, .arr 1 (u.map .i) false, .arr 1 (v.map .i) false]) (sz := 6) (cs := [.d (.i x), .d (.i y), .d (.sl X), .d (.b b), .msl 2 0 u.length, .msl 3 0 v.length]) (j := 4) (k := 1) (xs := u) hlt hi rfl (Nat.le_refl _) rfl
  have t2 := Weak.inA' (nF := 0) (env := env) (o := 0) (os := [.dead]) (l := [.dead, .dead, .arr 1 (v.map .i) false]) (sz := 6) (cs := [.d (.i x), .d (.i y), .d (.sl X), .d (.b b), .d (.sl (u.map .i)), .msl 3 0 v.length]) (j := 5) (k := 2) (xs := v) hlt hi rfl (Nat.le_refl _) rfl
  have t3 := Weak.shut' (nF := 0) (env := env) (env' := env') (o := 0) (os := [.dead]) (l := [.dead, .dead, .dead]) (i := i) (sz := 6) (ds := ds) (cs := [.i x, .i y, .sl X, .b b, .sl (u.map .i), .sl (v.map .i)]) hlt (Nat.zero_le _) rfl he henv
  rw [List.take_length] at t0 t1 t2
  exact t0.trans (t1.trans (t2.trans t3))
theorem Weak.openC {n : Nat} (hlt : o < os.length) (hX : ∀ z ∈ X, z.cells.length = n) (hx : ds[i]? = some (.agg [.i x, .i y, .sl X, .b b, .sl (u.map .i), .sl (v.map .i)])) :
    Weak nF ⟨env, os.set o (.tree 6 (ds.map .d))⟩ ⟨env, os.set o (.tree 6 ((ds.map .d).set i (.agg [.d (.i x), .d (.i y), uV os.length X.length, .d (.b b), uV (os.length + 1) u.length, uV (os.length + 2) v.length]))) ++ [uT n X, uA 1 (u.map .i), uA 1 (v.map .i)]⟩ := by
  have hi := (List.getElem?_eq_some_iff.1 hx).1
  refine (Weak.open' hlt hx).trans ?_
  refine (Weak.unT' (j := 2) (k := 0) (xs := X) hlt hi rfl rfl hX).trans ?_
  refine (Weak.unA' (j := 4) (k := 1) (xs := u) hlt hi rfl rfl).trans ?_
  exact Weak.unA' (j := 5) (k := 2) (xs := v) hlt hi rfl rfl
theorem Weak.shutC {n n0 n1 n2 : Nat} (hlt : o < os.length) (hi : i < ds.length) (h0 : n0 = X.length) (h1 : n1 = u.length) (h2 : n2 = v.length) (hnF : nF ≤ os.length) (hos : os.all (Ob.bnd os.length) = true) (he : sub env env') (henv : (env'.all fun p => p.2.bnd os.length) = true) :
    Weak nF ⟨env, os.set o (.tree 6 ((ds.map .d).set i (.agg [.d (.i x), .d (.i y), uV os.length n0, .d (.b b), uV (os.length + 1) n1, uV (os.length + 2) n2]))) ++ [uT n X, uA 1 (u.map .i), uA 1 (v.map .i)]⟩
      ⟨env', os.set o (.tree 6 ((ds.set i (.agg [.i x, .i y, .sl X, .b b, .sl (u.map .i), .sl (v.map .i)])).map .d))⟩ := by
  refine (Weak.foT' (j := 2) (k := 0) (xs := X) hlt hi rfl h0 rfl).trans ?_
  refine (Weak.foA' (j := 4) (k := 1) (xs := u) hlt hi rfl h1 rfl).trans ?_
  refine (Weak.foA' (j := 5) (k := 2) (xs := v) hlt hi rfl h2 rfl).trans ?_
  exact Weak.shut' (cs := [.i x, .i y, .sl X, .b b, .sl (u.map .i), .sl (v.map .i)]) hlt hnF hos he henv
end
end
end Go.PL

/- TM0 -/
namespace Go.PL
open Go Go.Proofs
set_option maxRecDepth 10000
set_option maxHeartbeats 4000000
set_option linter.unusedSimpArgs false
set_option linter.unusedVariables false
/-- Marks. -/
def mkL (k : Int) (n : Nat) : List Int := (List.range n).map fun i : Nat => k + (i : Int)
theorem mkL_len (k : Int) (n : Nat) : (mkL k n).length = n := by simp [mkL]
theorem mkL_succ (k : Int) (n : Nat) : mkL k (n + 1) = mkL k n ++ [k + (n : Int)] := by simp [mkL, List.range_succ]
theorem mkL_get {k : Int} {n i : Nat} (h : i < n) : (mkL k n).getD i 0 = k + (i : Int) := by simp [mkL, List.getD, h]
theorem mkL_set {k : Int} {es : List Int} {i : Nat} (h : i < es.length) : (mkL k i ++ es.drop i).set i (k + (i : Int)) = mkL k (i + 1) ++ es.drop (i + 1) := by
  rw [List.set_append_right _ _ (by rw [mkL_len]; exact Nat.le_refl _), mkL_len, Nat.sub_self, List.drop_eq_getElem_cons h, List.set_cons_zero, mkL_succ]; simp
theorem markInts_c (os : List Ob) (o n : Nat) (k : Int) (es : List Int) (ho : o < os.length) (hb : os.all (Ob.bnd os.length) = true) (hn : n ≤ es.length) (hl : es.length ≤ 1048576) (hk : 0 ≤ k ∧ k ≤ 1000000000) :
    CC 41 [.msl o 0 n, .d (.i k)] (os.set o (.arr 1 (es.map .i) false)) (.d (.i (k + n))) (os.set o (.arr 1 ((mkL k n ++ es.drop n).map .i) false)) := by
  have hg : ∀ X, (os.set o X)[o]? = some X := fun X => by rw [List.getElem?_set_self ho]
  have hs : ∀ X Y, (os.set o X).set o Y = os.set o Y := fun X Y => by simp
  refine Den.newG (vs := [.d (.i (k + n))]) Try.func41 rfl 2 os.length [.tmp 4] (by kernel_rfl) rfl rfl (by simp only [initE_nil, initE_cons, Nat.reduceAdd]; exact rfl) rfl (by simp) (by simp) rfl (by rw [List.length_set]; exact all_set' hb rfl) ?_
  repeat' first | (with_reducible first | refine nx' ?_ | refine n0 ?_ | refine rD ?_ | refine n1 ?_ | refine nilB_i fun b hb => ?_ | refine nP ?_ ?_ | refine nS fun K hK => ?_ | (refine n2 ?_ ?_ <;> intro h <;> first | subst (h : _ = true) | subst (h : _ = false) | skip) | refine And.intro ?_ ?_ | refine nK ‹Imp _ _› ?_) | exact nl | fail
  refine Wp.loopR (fun i : Nat => ⟨[(0, .msl o 0 n), (1, .d (.i (k + i))), (5, .d (.i i))], os.set o (.arr 1 ((mkL k i ++ es.drop i).map .i) false)⟩) (fun i => n - i) (fun i => i ≤ n) 0 (Weak.low (by simp -implicitDefEqProofs (disch := omega) only [go_sem, sub_nil, sub_cons, LX, Int.natCast_zero, Int.add_zero, show mkL k 0 = [] from rfl]; try ((repeat' refine And.intro ?_ ?_) <;> first | rfl | trivial | (congr 3; omega) | (congr 1; omega)))) (by omega) ?_
  rintro i hi K hK
  have hln : (mkL k i ++ es.drop i).length = es.length := by rw [List.length_append, mkL_len, List.length_drop]; omega
  by_cases h : i < n
  · have hms := mkL_set (k := k) (es := es) (i := i) (by omega)
    repeat' first | (with_reducible first | refine nx' ?_ (by simp -implicitDefEqProofs (disch := omega) only [go_sem, hg, hs, hln, hms]; exact rfl) | refine n0 ?_ | refine rD ?_ | refine n1 ?_ | refine nilB_i fun b hb => ?_ | refine nP ?_ ?_ | refine nS fun K hK => ?_ | (refine n2 ?_ ?_ <;> intro h <;> first | subst (h : _ = true) | subst (h : _ = false) | (simp only [FX, LX, hg, hs, hln, hms] at h) | skip) | refine And.intro ?_ ?_ | refine nK ‹Imp _ _› ?_) | exact nl | fail
    all_goals first
      | exact ⟨i + 1, by omega, by omega, (Weak.low (by simp -implicitDefEqProofs (disch := omega) only [go_sem, sub_nil, sub_cons, LX, show k + ((i + 1 : Nat) : Int) = k + (i : Int) + 1 by omega]; try ((repeat' refine And.intro ?_ ?_) <;> first | rfl | trivial | (congr 3; omega) | (congr 1; omega))))⟩
      | skip
  · obtain rfl : i = n := by omega
    repeat' first | (with_reducible first | refine nx' ?_ (by simp -implicitDefEqProofs (disch := omega) only [go_sem, hg, hs]; exact rfl) | refine n0 ?_ | refine rD ?_ | refine n1 ?_ | refine nilB_i fun b hb => ?_ | refine nP ?_ ?_ | refine nS fun K hK => ?_ | (refine n2 ?_ ?_ <;> intro h <;> first | subst (h : _ = true) | subst (h : _ = false) | (simp only [FX, LX, hg, hs] at h) | skip) | refine And.intro ?_ ?_ | refine nK ‹Imp _ _› ?_) | exact nl | fail
    exact finG_of [(4, .d (.i (k + i)))] [] (by rw [List.append_nil]; exact Weak.lo)
theorem markNil_c (os : List Ob) (k : Int) (hb : os.all (Ob.bnd os.length) = true) (hk : 0 ≤ k ∧ k ≤ 1000000000) :
    CC 41 [.d (.sl []), .d (.i k)] os (.d (.i k)) os := by
  refine Den.newG (vs := [.d (.i k)]) Try.func41 rfl 2 os.length [.tmp 4] (by kernel_rfl) rfl rfl (by simp only [initE_nil, initE_cons, Nat.reduceAdd]; exact rfl) rfl rfl (Nat.le_refl _) rfl hb ?_
  repeat' first | (with_reducible first | refine nx' ?_ | refine n0 ?_ | refine rD ?_ | refine n1 ?_ | refine nilB_i fun b hb => ?_ | refine nP ?_ ?_ | refine nS fun K hK => ?_ | (refine n2 ?_ ?_ <;> intro h <;> first | subst (h : _ = true) | subst (h : _ = false) | skip) | refine And.intro ?_ ?_ | refine nK ‹Imp _ _› ?_) | exact nl | fail
  refine Wp.loopR (fun i : Nat => ⟨[(0, .d (.sl [])), (1, .d (.i k)), (5, .d (.i 0))], os⟩) (fun i => i) (fun i => True) 0 Weak.lo trivial ?_
  rintro i hi K hK
  repeat' first | (with_reducible first | refine nx' ?_ | refine n0 ?_ | refine rD ?_ | refine n1 ?_ | refine nilB_i fun b hb => ?_ | refine nP ?_ ?_ | refine nS fun K hK => ?_ | (refine n2 ?_ ?_ <;> intro h <;> first | subst (h : _ = true) | subst (h : _ = false) | skip) | refine And.intro ?_ ?_ | refine nK ‹Imp _ _› ?_) | exact nl | fail
  exact finG_of [(4, .d (.i k))] [] (by rw [List.append_nil]; exact Weak.lo)
theorem markInts_u (os : List Ob) (o n : Nat) (k : Int) (es : List Int) (ho : o < os.length) (hb : os.all (Ob.bnd os.length) = true) (hn : n = es.length) (hl : es.length ≤ 1048576) (hk : 0 ≤ k ∧ k ≤ 1000000000) :
    CC 41 [uV o n, .d (.i k)] (os.set o (uA 1 (es.map .i))) (.d (.i (k + n))) (os.set o (uA 1 ((mkL k n).map .i))) := by
  subst hn
  by_cases h0 : es.length = 0
  · have e : es = [] := List.eq_nil_of_length_eq_zero h0
    subst e
    have := markNil_c (os.set o .dead) k (by rw [List.length_set]; exact all_set' hb rfl) hk
    simpa [uV, uA, mkL] using this
  · have := markInts_c os o es.length k es ho hb (Nat.le_refl _) hl hk
    rw [List.drop_length, List.append_nil] at this
    rw [uV_pos h0, uA_pos (by simpa using h0), uA_pos (by simpa [mkL_len] using h0)]
    exact this
end Go.PL

/- TM1 -/
namespace Go.PL
open Go Go.Proofs
set_option maxRecDepth 10000
set_option maxHeartbeats 4000000
set_option linter.unusedSimpArgs false
set_option linter.unusedVariables false
/-- How many marks a rational takes in a list, and what it is then. -/
def mkR (k : Int) (r : Rt) : Rt := ⟨k % 3 == 0, mkL (k + 1) r.num.length, mkL (k + 1 + r.num.length) r.den.length⟩
def cR (r : Rt) : Nat := 1 + szR r
def mkRs : Int → List Rt → List Rt
  | _, [] => []
  | k, r :: l => mkR k r :: mkRs (k + cR r) l
theorem mkRs_len : ∀ (k : Int) (l : List Rt), (mkRs k l).length = l.length
  | _, [] => rfl
  | k, r :: l => by simp [mkRs, mkRs_len]
theorem mkRs_app : ∀ (k : Int) (a b : List Rt), mkRs k (a ++ b) = mkRs k a ++ mkRs (k + sumOf cR a) b
  | k, [], b => by simp [mkRs, sumOf]
  | k, r :: a, b => by simp [mkRs, mkRs_app, sumOf, Int.add_assoc]
theorem szV_cR : ∀ l : List Rt, sumOf cR l = szV l
  | [] => rfl
  | r :: l => by have := szV_cR l; simp only [sumOf, szV, List.length_cons, cR] at *; omega
abbrev r0 : Rt := ⟨false, [], []⟩
/-- A list of which the first ones are marked. -/
def mkPre (k : Int) (l : List Rt) (i : Nat) : List Rt := mkRs k (l.take i) ++ l.drop i
theorem mkPre_len {k : Int} {l : List Rt} {i : Nat} : (mkPre k l i).length = l.length := by simp [mkPre, mkRs_len]; omega
theorem mkPre_get {k : Int} {l : List Rt} {i : Nat} (h : i < l.length) : (mkPre k l i)[i]? = some (l.getD i r0) := by
  rw [mkPre, List.getElem?_append_right (by simp [mkRs_len]; omega), mkRs_len]
  simp [List.getElem?_drop, List.getD, h, Nat.min_eq_left (Nat.le_of_lt h)]
theorem mkPre_set {k : Int} {l : List Rt} {i : Nat} (h : i < l.length) : (mkPre k l i).set i (mkR (k + sumOf cR (l.take i)) (l.getD i r0)) = mkPre k l (i + 1) := by
  have hl : (mkRs k (l.take i)).length = i := by simp [mkRs_len]; omega
  rw [mkPre, List.set_append_right _ _ (by omega), hl, Nat.sub_self, List.drop_eq_getElem_cons h, List.set_cons_zero, mkPre, take_succD r0 h, mkRs_app]
  simp [mkRs]
theorem mkPre_zero {k : Int} {l : List Rt} : mkPre k l 0 = l := by simp [mkPre, mkRs]
theorem mkPre_all {k : Int} {l : List Rt} : mkPre k l l.length = mkRs k l := by simp [mkPre]
set_option maxHeartbeats 1000000 in
theorem markRats_c (os : List Ob) (o n : Nat) (k : Int) (l : List Rt) (ho : o < os.length) (hb : os.all (Ob.bnd os.length) = true) (hn : n = l.length) (hl : bV l) (hk : 0 ≤ k ∧ k + sumOf cR l ≤ 1000000000) :
    CC 26 [.msl o 0 n, .d (.i k)] (os.set o (.tree 3 ((l.map encR).map .d))) (.d (.i (k + sumOf cR l))) (os.set o (.tree 3 (((mkRs k l).map encR).map .d))) := by
  subst hn
  have hl0 := hl.1
  haveI : Fr os o := ⟨ho, hb⟩
  refine Den.newG (vs := [.d (.i (k + sumOf cR l))]) Try.func26 rfl 2 os.length [.tmp 4] (by kernel_rfl) rfl rfl (by simp only [initE_nil, initE_cons, Nat.reduceAdd]; exact rfl) rfl (by simp) (by simp) rfl (by rw [List.length_set]; exact all_set' hb tree_bnd) ?_
  repeat' first | (with_reducible first | refine nx' ?_ | refine n0 ?_ | refine rD ?_ | refine n1 ?_ | refine nilB_i fun b hb => ?_ | refine nP ?_ ?_ | refine nS fun K hK => ?_ | (refine n2 ?_ ?_ <;> intro h <;> first | subst (h : _ = true) | subst (h : _ = false) | skip) | refine And.intro ?_ ?_ | refine nK ‹Imp _ _› ?_) | exact nl | fail
  refine Wp.loopR (fun i : Nat => ⟨[(0, .msl o 0 l.length), (1, .d (.i (k + sumOf cR (l.take i)))), (5, .d (.i i))], os.set o (.tree 3 (((mkPre k l i).map encR).map .d))⟩) (fun i => l.length - i) (fun i => i ≤ l.length) 0 (Weak.low (by simp -implicitDefEqProofs (disch := omega) only [go_sem, sub_nil, sub_cons, LX, mkPre_zero, List.take_zero, sumOf, Int.natCast_zero, Int.add_zero]; try ((repeat' refine And.intro ?_ ?_) <;> first | rfl | trivial | (congr 3; omega) | (congr 1; omega)))) (by omega) ?_
  rintro i hi K hK
  by_cases h : i < l.length
  · have hs := sumOf_succ (f := cR) r0 h
    have hle := sumOf_le (f := cR) l (i + 1)
    obtain ⟨hq1, hq2⟩ := hl.get i
    generalize hr : l.getD i ⟨false, [], []⟩ = r at *
    have hr' : l.getD i r0 = r := hr
    have hg := mkPre_get (k := k) h
    have hst := mkPre_set (k := k) h
    rw [hr'] at hg hst
    have hlen : ((mkPre k l i).map encR).length = l.length := by rw [List.length_map, mkPre_len]
    have hx : ((mkPre k l i).map encR)[i]? = some (.agg [.b r.neg, .sl (r.num.map .i), .sl (r.den.map .i)]) := by rw [List.getElem?_map, hg]; rfl
    generalize hds : (mkPre k l i).map encR = ds at *
    have hi' : i < ds.length := by omega
    have hcr : cR r = 1 + r.num.length + r.den.length := by simp [cR, szR]; omega
    generalize hkk : k + (sumOf cR (l.take i) : Int) = kk at *
    have hk1 : 0 ≤ kk ∧ kk + 1 + r.num.length + r.den.length ≤ 1000000000 := by omega
    refine .weak (Weak.openR ho hx) ?_
    have m1 := markInts_u (os.set o (.tree 3 ((ds.map .d).set i (.agg [.d (.b (kk % 3 == 0)), uV os.length r.num.length, uV (os.length + 1) r.den.length]))) ++ [uA 1 (r.num.map .i), uA 1 (r.den.map .i)]) os.length r.num.length (kk + 1) r.num (by simp) (all_tree hb (by simp [bnd1_d, uV_bnd]) (by simp [uA_bnd])) rfl hq1 (by omega)
    have m2 := markInts_u (os.set o (.tree 3 ((ds.map .d).set i (.agg [.d (.b (kk % 3 == 0)), uV os.length r.num.length, uV (os.length + 1) r.den.length]))) ++ [uA 1 ((mkL (kk + 1) r.num.length).map .i), uA 1 (r.den.map .i)]) (os.length + 1) r.den.length (kk + 1 + r.num.length) r.den (by simp) (all_tree hb (by simp [bnd1_d, uV_bnd]) (by simp [uA_bnd])) rfl hq2 (by omega)
    simp only [ft0, ft1, List.set_cons_zero, List.set_cons_succ] at m1 m2
    repeat' first | (with_reducible first | refine nx' ?_ | refine n0 ?_ | refine rD ?_ | refine n1 ?_ | refine nilB_i fun b hb => ?_ | refine nPm (m1) ?_ | refine nPm (m2) ?_ | refine nP ?_ ?_ | refine nS fun K hK => ?_ | (refine n2 ?_ ?_ <;> intro h <;> first | subst (h : _ = true) | subst (h : _ = false) | skip) | refine And.intro ?_ ?_ | refine nK ‹Imp _ _› ?_) | exact nl | fail
    · refine ⟨i + 1, by omega, by omega, ?_⟩
      have e : (mkPre k l (i + 1)).map encR = ds.set i (.agg [.b (kk % 3 == 0), .sl ((mkL (kk + 1) r.num.length).map .i), .sl ((mkL (kk + 1 + r.num.length) r.den.length).map .i)]) := by
        rw [← hst, List.map_set, hds]; rfl
      have e2 : k + (sumOf cR (l.take (i + 1)) : Int) = kk + 1 + r.num.length + r.den.length := by omega
      rw [e, e2]
      refine Weak.shutR ho hi' (mkL_len _ _).symm (mkL_len _ _).symm (Nat.le_refl _) hb (by (simp -implicitDefEqProofs (disch := omega) only [go_sem, sub_nil, sub_cons, LX]; try ((repeat' refine And.intro ?_ ?_) <;> first | rfl | trivial | (congr 3; omega) | (congr 1; omega)))) (by simp [V.bnd, V.bnd1, Nat.blt_eq, ho])
  · obtain rfl : i = l.length := by omega
    repeat' first | (with_reducible first | refine nx' ?_ | refine n0 ?_ | refine rD ?_ | refine n1 ?_ | refine nilB_i fun b hb => ?_ | refine nP ?_ ?_ | refine nS fun K hK => ?_ | (refine n2 ?_ ?_ <;> intro h <;> first | subst (h : _ = true) | subst (h : _ = false) | skip) | refine And.intro ?_ ?_ | refine nK ‹Imp _ _› ?_) | exact nl | fail
    exact finG_of [(4, .d (.i (k + sumOf cR l)))] [] (by rw [List.append_nil, mkPre_all]; exact Weak.lo)
end Go.PL
