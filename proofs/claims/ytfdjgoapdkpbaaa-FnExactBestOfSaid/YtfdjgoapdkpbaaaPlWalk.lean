/- A plain machine, sound for the given model, and contracts of functions over it, part 9: PlWalk. Nothing is assumed. -/
import Derived.Test.YtfdjgoapdkpbaaaPlQSimp
set_option linter.unusedSimpArgs false
set_option linter.unusedVariables false
set_option linter.unusedSectionVars false
/- PlWalk -/
namespace Go.PL
open Go

section
variable {T : Tab} {C : Call} {nF : Nat} {s : St} {env : List (Nat × V)} {os : List Ob} {Q : Ex → St → Prop}

def blkK (id : Nat) (K : St → Prop) (Q : Ex → St → Prop) : Ex → St → Prop
  | .normal, s => K s
  | .exit n, s => bif n == id then K s else Q (.exit n) s
  | .ret, s => Q .ret s

theorem blkK_normal {id : Nat} {K : St → Prop} : blkK id K Q .normal s = K s := rfl
theorem blkK_ret {id : Nat} {K : St → Prop} : blkK id K Q .ret s = Q .ret s := rfl
theorem blkK_exit {id n : Nat} {K : St → Prop} : blkK id K Q (.exit n) s = bif n == id then K s else Q (.exit n) s := rfl

/-- What is left to be done behind. -/
def Imp (A K : St → Prop) : Prop := ∀ s, A s → K s
theorem Imp.out {A K : St → Prop} (h : Imp A K) (x : A s) : K s := h s x

theorem Wp.seqK {a b : Code} (h : ∀ K : St → Prop, Imp (fun s => Wp T C nF b s Q) K → Wp T C nF a s (thn K Q)) : Wp T C nF (.seq a b) s Q := by
  refine .seq (M := thn (fun s => Wp T C nF b s Q) Q) (h _ fun s h => h) (fun s h => h) (fun e s he h => ?_)
  cases e with
  | normal => exact absurd rfl he
  | exit n => exact h
  | ret => exact h

theorem Wp.blockK {id : Nat} {a : Code} (h : ∀ K : St → Prop, Imp (fun s => Q .normal s) K → Wp T C nF a s (blkK id K Q)) : Wp T C nF (.block id a) s Q := by
  refine .block (.mono (h (Q .normal) fun s h => h) ?_)
  intro e s h
  cases e with
  | normal => exact h
  | ret => exact h
  | exit n => rw [blk_exit]; exact h

theorem Wp.condK {c : Operand} {a b : Code} {t : Bool} (hc : ev env c = .d (.val (.bool t))) (h1 : t = true → Wp T C nF a ⟨env, os⟩ Q) (h2 : t = false → Wp T C nF b ⟨env, os⟩ Q) : Wp T C nF (.cond c a b) ⟨env, os⟩ Q :=
  .cond t hc h1 h2

theorem Wp.regionK {id : Nat} {l : List Oper} (h : opsK T C nF l.toArray l s (Q .normal)) : Wp T C nF (.region id l.toArray false) s Q := .region h

/-- A loop: what runs through it, its measure, what holds at its head. -/
theorem Wp.loopK {α : Type} {a : Code} (S : α → St) (μ : α → Nat) (J : α → Prop) (a0 : α) (hw : Weak nF s (S a0)) (hJ : J a0)
    (round : ∀ x, J x → ∀ K : St → Prop, Imp (fun s' => ∃ y, μ y < μ x ∧ Weak nF s' (S y) ∧ J y) K → Wp T C nF a (S x) (thn K Q)) : Wp T C nF (.loop a) s Q := by
  refine .loop (fun n s => ∃ x, s = S x ∧ μ x = n ∧ J x) (μ a0) hw ⟨a0, rfl, rfl, hJ⟩ ?_
  rintro n _ ⟨x, rfl, rfl, hx⟩
  refine .mono (round x hx (fun s' => ∃ m s'', m < μ x ∧ Weak nF s' s'' ∧ ∃ y, s'' = S y ∧ μ y = m ∧ J y) (fun s' ⟨y, h1, h3, h2⟩ => ⟨μ y, S y, h1, h3, y, rfl, rfl, h2⟩)) ?_
  intro e s h
  cases e with
  | normal => exact h
  | exit n => exact h
  | ret => exact h


variable {all : Array Oper} {r : List Oper} {K : St → Prop} {dst : Option Tmp} {ty : TypeId} {pos : String} {after : Array Edge} {op : Op} {j n : Nat}

theorem Wp.condT {c : Operand} {a b : Code} (hc : ev env c = .d (.val (.bool true))) (h1 : Wp T C nF a ⟨env, os⟩ Q) : Wp T C nF (.cond c a b) ⟨env, os⟩ Q := .cond true hc (fun _ => h1) (fun h => by cases h)
theorem Wp.condF {c : Operand} {a b : Code} (hc : ev env c = .d (.val (.bool false))) (h1 : Wp T C nF b ⟨env, os⟩ Q) : Wp T C nF (.cond c a b) ⟨env, os⟩ Q := .cond false hc (fun h => by cases h) (fun _ => h1)
theorem opsK_on {want : Bool} (h : guardV all j env = .d (.val (.bool want))) (h1 : op1K T C nF ⟨dst, op, ty, pos, after, some (j, want)⟩ ⟨env, os⟩ (fun s => opsK T C nF all r s K)) :
    opsK T C nF all (⟨dst, op, ty, pos, after, some (j, want)⟩ :: r) ⟨env, os⟩ K := opsK_gd h (fun _ => h1) (fun h => by cases want <;> cases h)
theorem opsK_off {want : Bool} (h : guardV all j env = .d (.val (.bool !want))) (h2 : opsK T C nF all r (St.put ⟨env, os⟩ dst undefV) K) :
    opsK T C nF all (⟨dst, op, ty, pos, after, some (j, want)⟩ :: r) ⟨env, os⟩ K := opsK_gd h (fun h => by cases want <;> cases h) (fun _ => h2)
theorem qN_on {want : Bool} (h : guardV all j env = .d (.val (.bool want))) (h1 : quiet1K T C nF ⟨dst, op, ty, pos, after, some (j, want)⟩ ⟨env, os⟩ (fun s => qN T C nF all n r s K)) :
    qN T C nF all (n + 1) (⟨dst, op, ty, pos, after, some (j, want)⟩ :: r) ⟨env, os⟩ K := qN_gd h (fun _ => h1) (fun h => by cases want <;> cases h)
theorem qN_off {want : Bool} (h : guardV all j env = .d (.val (.bool !want))) (h2 : qN T C nF all n r (St.put ⟨env, os⟩ dst undefV) K) :
    qN T C nF all (n + 1) (⟨dst, op, ty, pos, after, some (j, want)⟩ :: r) ⟨env, os⟩ K := qN_gd h (fun h => by cases want <;> cases h) (fun _ => h2)


variable {KV : V → St → Prop} {ti : TI} {o len : Nat} {news : List D}
theorem appendK_msl : appendK nF ti ⟨env, os⟩ (.msl o 0 len) news KV = ((∀ e ∈ news, e.cells.length = ti.size ∧ ∀ c ∈ e.cells, c.one = true) ∧ 0 < ti.size ∧ match os[o]? with
    | some (.arr sz es fz) => nF ≤ o ∧ sz = ti.size ∧ len = es.length ∧ (len + news.length) * ti.bytes ≤ 140737488355328 ∧ len + news.length ≤ 9223372036854775807 ∧
        KV (.msl o 0 (len + news.length)) ⟨env.map fun x => (x.1, PL.kill o x.2), (os.map (Ob.kill o)).set o (.arr sz (es ++ news) fz)⟩
    | _ => False) := rfl
theorem appendK_nil : appendK nF ti ⟨env, os⟩ (.d (.val (.slice none 0 0))) news KV = ((∀ e ∈ news, e.cells.length = ti.size ∧ ∀ c ∈ e.cells, c.one = true) ∧ 0 < ti.size ∧
    (news = [] → KV (.d .nil) ⟨env, os⟩) ∧ (news ≠ [] → news.length * ti.bytes ≤ 140737488355328 ∧ news.length ≤ 9223372036854775807 ∧ KV (.msl os.length 0 news.length) ⟨env, os ++ [.arr ti.size news false]⟩)) := rfl
theorem kill_d {x : D} : PL.kill o (.d x) = .d x := rfl
theorem kill_msl {o' a b : Nat} : PL.kill o (.msl o' a b) = bif o' == o then .any else .msl o' a b := by simp [PL.kill, kill1, beq_beq]
theorem kill_ref {o' a b : Nat} : PL.kill o (.ref o' a b) = bif o' == o then .any else .ref o' a b := by simp [PL.kill, kill1, beq_beq]
theorem kill_any : PL.kill o .any = .any := rfl
theorem kill_agg {cs : List V} : PL.kill o (.agg cs) = .agg (cs.map (kill1 o)) := rfl
theorem kill_undef : PL.kill o undefV = undefV := rfl
theorem kill1_d {x : D} : kill1 o (.d x) = .d x := rfl
theorem kill1_msl {o' a b : Nat} : kill1 o (.msl o' a b) = bif o' == o then .any else .msl o' a b := by simp [kill1, beq_beq]
theorem okill_var {cs : List V} {fz : Bool} : Ob.kill o (.var cs fz) = .var (cs.map (PL.kill o)) fz := rfl
theorem okill_arr {sz : Nat} {es : List D} {fz : Bool} : Ob.kill o (.arr sz es fz) = .arr sz es fz := rfl
theorem okill_dead : Ob.kill o .dead = .dead := rfl
theorem news_i {l : List Int} : (∀ e ∈ l.map D.i, e.cells.length = 1 ∧ ∀ c ∈ e.cells, c.one = true) = True := by
  simp only [List.mem_map, forall_exists_index, and_imp, eq_iff_iff, iff_true]
  rintro e x _ rfl
  exact ⟨rfl, by simp [D.cells, D.one]⟩
theorem news_one {x : Int} : (∀ e ∈ [D.i x], e.cells.length = 1 ∧ ∀ c ∈ e.cells, c.one = true) = True := by
  have := news_i (l := [x]); simpa using this
theorem elems_sl {es : List D} : elems os (.d (.sl es)) = some es := rfl
theorem elems_nil : elems os (.d (.val (.slice none 0 0))) = some [] := rfl
theorem elems_msl {a b : Nat} : elems os (.msl o a b) = (match os[o]? with
    | some (.arr _ es _) => some ((es.drop a).take b)
    | _ => none) := rfl
theorem fill_nil {f : Nat → Option (Nat × Nat)} {cs : List V} : fillCells f cs [] = some cs := rfl
theorem fill_cons {f : Nat → Option (Nat × Nat)} {cs : List V} {i : Nat} {v : V} {r : List (Nat × V)} : fillCells f cs ((i, v) :: r) = (match f i with
    | none => none
    | some (off, n) => if v.cells.length = n ∧ off + n ≤ cs.length ∧ v.cells.all V.one then fillCells f (setRange cs off v.cells) r else none) := rfl
theorem chunk_zero {b : Bool} {n : Nat} {cs : List D} : chunk b n 0 cs = [] := rfl
theorem chunk_succ {b : Bool} {n k : Nat} {cs : List D} : chunk b n (k + 1) cs = (if b then .agg (cs.take n) else (cs.head?).getD (.i 0)) :: chunk b n k (cs.drop n) := rfl
theorem freeze_nil : freeze os [] = os := rfl

theorem vc_d {x : D} : (V.d x).cells = x.cells.map .d := rfl
theorem vc_agg {cs : List V} : (V.agg cs).cells = cs := rfl
theorem vc_ref {a b c : Nat} : (V.ref a b c).cells = [.ref a b c] := rfl
theorem vc_msl {a b c : Nat} : (V.msl a b c).cells = [.msl a b c] := rfl
theorem vc_fn {f : Fn} {a b : List V} : (V.fn f a b).cells = [.fn f a b] := rfl
theorem dc_val {v : Value} : (D.val v).cells = [.val v] := rfl
theorem dc_sl {es : List D} : (D.sl es).cells = [.sl es] := rfl
theorem dc_agg {cs : List D} : (D.agg cs).cells = cs := rfl
theorem dc_ptr {cs : List D} : (D.ptr cs).cells = [.ptr cs] := rfl
theorem dc_fn {f : Fn} {a b : List D} : (D.fn f a b).cells = [.fn f a b] := rfl
theorem do_int {k : IntKind} {n : Int} : (D.val (.int k n)).one = true := rfl
theorem do_bool {n : Bool} : (D.val (.bool n)).one = true := rfl
theorem do_str {n : ByteArray} : (D.val (.string n)).one = true := rfl
theorem do_slice {a : Option Addr} {n m : Nat} : (D.val (.slice a n m)).one = true := rfl
theorem do_nilf : (D.val .nilFunc).one = true := rfl
theorem do_sl {es : List D} : (D.sl es).one = true := rfl
theorem do_ptr {cs : List D} : (D.ptr cs).one = true := rfl
theorem do_fn {f : Fn} {a b : List D} : (D.fn f a b).one = true := rfl
theorem vo_d {x : D} : (V.d x).one = x.one := rfl
theorem vo_ref {a b c : Nat} : (V.ref a b c).one = true := rfl
theorem vo_msl {a b c : Nat} : (V.msl a b c).one = true := rfl
theorem vo_fn {f : Fn} {a b : List V} : (V.fn f a b).one = true := rfl
theorem va_agg {cs : List V} : (V.agg cs).isAgg = true := rfl
theorem va_dagg {cs : List D} : (V.d (.agg cs)).isAgg = true := rfl
theorem vd_d {x : D} : (V.d x).isD = some x := rfl
theorem vd_ref {a b c : Nat} : (V.ref a b c).isD = none := rfl
theorem vd_msl {a b c : Nat} : (V.msl a b c).isD = none := rfl
theorem take_map {f : Int → D} {l : List Int} {n : Nat} : (l.map f).take n = (l.take n).map f := List.map_take.symm
theorem drop_map {f : Int → D} {l : List Int} {n : Nat} : (l.map f).drop n = (l.drop n).map f := List.map_drop.symm
theorem app_map {f : Int → D} {l m : List Int} : l.map f ++ m.map f = (l ++ m).map f := List.map_append.symm
theorem app_map1 {l : List Int} {x : Int} : l.map D.i ++ [D.val (.int .i64 x)] = (l ++ [x]).map D.i := by simp

theorem Weak.cut {env' : List (Nat × V)} {os' tl : List Ob} (h : sub env env') (ho : os = os' ++ tl) (hn : nF ≤ os'.length) (h1 : (env'.all fun p => p.2.bnd os'.length) = true) (h2 : (os'.all (Ob.bnd os'.length)) = true) :
    Weak nF ⟨env, os⟩ ⟨env', os'⟩ := .drop tl hn h ho h1 h2
theorem tdiv_nat (k n : Nat) : (k : Int).tdiv (n : Int) = ((k / n : Nat) : Int) := by rw [Int.tdiv_eq_ediv_of_nonneg (by omega)]; rfl
theorem tmod_nat (k n : Nat) : (k : Int).tmod (n : Int) = ((k % n : Nat) : Int) := by rw [Int.tmod_eq_emod_of_nonneg (by omega)]; rfl
theorem tdiv_pos {a b : Int} (h : 0 ≤ a) : a.tdiv b = a / b := Int.tdiv_eq_ediv_of_nonneg h
theorem tmod_pos {a b : Int} (h : 0 ≤ a) : a.tmod b = a % b := Int.tmod_eq_emod_of_nonneg h

theorem sc_d {x : D} : (V.d x).scal = x.scal := rfl
theorem sc_tup {cs : List V} : (V.tup cs).scal = (cs.all fun | .d x => x.scal | _ => false) := rfl
theorem sc_val {v : Value} : (D.val v).scal = true := rfl
theorem sc_sl {es : List D} : (D.sl es).scal = false := rfl
theorem sc_agg {es : List D} : (D.agg es).scal = false := rfl
theorem freeze_cons {x : Nat} {l : List Nat} : freeze os (x :: l) = (freeze os l).modify x Ob.fz := rfl
theorem fz_var {cs : List V} {b : Bool} : Ob.fz (.var cs b) = .var cs true := rfl
theorem fz_arr {n : Nat} {cs : List D} {b : Bool} : Ob.fz (.arr n cs b) = .arr n cs true := rfl
theorem mod_zero {x : Ob} {l : List Ob} {f : Ob → Ob} : (x :: l).modify 0 f = f x :: l := rfl
theorem mod_succ {x : Ob} {l : List Ob} {n : Nat} {f : Ob → Ob} : (x :: l).modify (n + 1) f = x :: l.modify n f := by simp

theorem se_val {v : Value} {j : Nat} {x : D} {r : List D} : setElem (.val v) j (x :: r) = x := rfl
theorem set_map {l : List Int} {k : Nat} {x : Int} : (l.map D.i).set k (D.val (.int .i64 x)) = (l.set k x).map D.i := by rw [List.map_set]
theorem rep_map {n : Nat} {x : Int} : List.replicate n (D.val (.int .i64 x)) = (List.replicate n x).map D.i := by rw [List.map_replicate]
theorem cons_map {x : Int} {l : List Int} : D.val (.int .i64 x) :: l.map D.i = (x :: l).map D.i := rfl
theorem Weak.thaw1 {t o off len sz : Nat} {es : List D} {fz : Bool} {s' : St} (ho : os[o]? = some (.arr sz es fz)) (ht : look env t = .msl o off len)
    (h : Weak nF ⟨(t, .d (.sl ((es.drop off).take len))) :: env, freeze os [o]⟩ s') : Weak nF ⟨env, os⟩ s' := by
  refine .trans (.fz [o]) (.trans (.thaw (sz := sz) (es := es) (t := t) (o := o) (off := off) (len := len) ?_ ht) h)
  simp only [freeze, List.getElem?_modify, ho]
  simp [Ob.fz]

/-- An operation without what the walk of a region that keeps its order never reads. -/
def slim (o : Oper) : Oper := { o with type := 0, pos := "", after := #[] }
theorem slim_mk {g : Option (Nat × Bool)} : slim ⟨dst, op, ty, pos, after, g⟩ = ⟨dst, op, 0, "", #[], g⟩ := rfl

theorem guardK_slim {o' : Oper} {a b : Prop} : guardK (all.map slim) (slim o') s a b = guardK all o' s a b := by
  unfold guardK
  have e : ∀ j : Nat, ((all.map slim)[j]?).bind (·.dst) = (all[j]?).bind (·.dst) := by
    intro j
    rw [Array.getElem?_map]
    cases all[j]? <;> rfl
  simp only [e]
  rfl

theorem opsK_slim : ∀ {l : List Oper} {s : St}, opsK T C nF (all.map slim) (l.map slim) s K → opsK T C nF all l s K
  | [], s, h => h
  | o' :: r, s, h => by
    simp only [List.map_cons, opsK] at h ⊢
    rw [guardK_slim] at h
    exact guardK_mono (fun h => op1K_mono (fun _ _ _ _ _ h => h) (fun s h => opsK_slim h) (show op1K T C nF o' s _ from h)) (fun h => opsK_slim h) h

theorem Wp.regionS {id : Nat} {l : List Oper} (h : opsK T C nF (l.map slim).toArray (l.map slim) s (Q .normal)) : Wp T C nF (.region id l.toArray false) s Q :=
  .region (opsK_slim (by simpa using h))

theorem opsK_u {want : Bool} (h : guardV all j env = undefV) (h2 : opsK T C nF all r (St.put ⟨env, os⟩ dst undefV) K) :
    opsK T C nF all (⟨dst, op, ty, pos, after, some (j, want)⟩ :: r) ⟨env, os⟩ K := opsK_gu h h2

end
end Go.PL
