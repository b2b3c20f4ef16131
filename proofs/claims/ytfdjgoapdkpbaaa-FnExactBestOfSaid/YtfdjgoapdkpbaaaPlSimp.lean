/- A plain machine, sound for the given model, and contracts of functions over it, part 5: PlSimp. Nothing is assumed. -/
import Derived.Test.YtfdjgoapdkpbaaaPlEval
set_option linter.unusedSimpArgs false
set_option linter.unusedVariables false
set_option linter.unusedSectionVars false
/- PlSimp -/
namespace Go.PL
open Go

section
variable {T : Tab} {C : Call} {nF : Nat} {all : Array Oper} {r : List Oper} {s : St} {env : List (Nat × V)} {os : List Ob} {K : St → Prop} {KV : V → St → Prop} {KW : V → Prop} {dst : Option Tmp} {ty : TypeId} {pos : String} {after : Array Edge}

theorem opsK_nil : opsK T C nF all [] s K = K s := rfl
theorem opsK_run {op : Op} : opsK T C nF all (⟨dst, op, ty, pos, after, none⟩ :: r) s K = op1K T C nF ⟨dst, op, ty, pos, after, none⟩ s (fun s => opsK T C nF all r s K) := rfl

def guardV (all : Array Oper) (j : Nat) (env : List (Nat × V)) : V := match (all[j]?).bind (·.dst) with
  | some t => look env t
  | none => .any

theorem opsK_gd {op : Op} {j : Nat} {want b : Bool} (h : guardV all j env = .d (.val (.bool b))) (h1 : b = want → op1K T C nF ⟨dst, op, ty, pos, after, some (j, want)⟩ ⟨env, os⟩ (fun s => opsK T C nF all r s K))
    (h2 : b = (!want) → opsK T C nF all r (St.put ⟨env, os⟩ dst undefV) K) : opsK T C nF all (⟨dst, op, ty, pos, after, some (j, want)⟩ :: r) ⟨env, os⟩ K := by
  simp only [opsK, guardK]
  unfold guardV at h
  split at h
  · rename_i t ht
    rw [ht]
    simp only [h]
    exact ⟨h1, h2⟩
  · cases h

theorem opsK_gt {op : Op} {j : Nat} {b : Bool} (h : guardV all j env = .d (.val (.bool b))) (h1 : b = true → op1K T C nF ⟨dst, op, ty, pos, after, some (j, true)⟩ ⟨env, os⟩ (fun s => opsK T C nF all r s K))
    (h2 : b = false → opsK T C nF all r (St.put ⟨env, os⟩ dst undefV) K) : opsK T C nF all (⟨dst, op, ty, pos, after, some (j, true)⟩ :: r) ⟨env, os⟩ K := opsK_gd h h1 h2
theorem opsK_gf {op : Op} {j : Nat} {b : Bool} (h : guardV all j env = .d (.val (.bool b))) (h1 : b = false → op1K T C nF ⟨dst, op, ty, pos, after, some (j, false)⟩ ⟨env, os⟩ (fun s => opsK T C nF all r s K))
    (h2 : b = true → opsK T C nF all r (St.put ⟨env, os⟩ dst undefV) K) : opsK T C nF all (⟨dst, op, ty, pos, after, some (j, false)⟩ :: r) ⟨env, os⟩ K := opsK_gd h h1 h2

theorem opsK_gu {op : Op} {j : Nat} {want : Bool} {x : Array Value} (h : guardV all j env = .d (.val (.tuple x))) 
    (h2 : opsK T C nF all r (St.put ⟨env, os⟩ dst undefV) K) : opsK T C nF all (⟨dst, op, ty, pos, after, some (j, want)⟩ :: r) ⟨env, os⟩ K := by
  simp only [opsK, guardK]
  unfold guardV at h
  split at h
  · rename_i t ht
    rw [ht]
    simp only [h]
    exact h2
  · cases h

variable {guard : Option (Nat × Bool)}
theorem op1_move {x : Operand} : op1K T C nF ⟨dst, .move x, ty, pos, after, guard⟩ ⟨env, os⟩ K = K (St.put ⟨env, os⟩ dst (ev env x)) := rfl
theorem op1_assign {x : Operand} : op1K T C nF ⟨dst, .assign x, ty, pos, after, guard⟩ ⟨env, os⟩ K = K (St.put ⟨env, os⟩ dst (ev env x)) := rfl
theorem op1_pick {c a b : Operand} : op1K T C nF ⟨dst, .pick c a b, ty, pos, after, guard⟩ ⟨env, os⟩ K = (match ev env c with
    | .d (.val (.bool t)) => K (St.put ⟨env, os⟩ dst (bif t then ev env a else ev env b))
    | _ => False) := rfl
theorem op1_alloc {t : TypeId} : op1K T C nF ⟨dst, .alloc t, ty, pos, after, guard⟩ ⟨env, os⟩ K = (match ti T t with
    | some i => K (St.put ⟨env, os ++ [.var (i.zero.map fun v => .d (.val v)) false]⟩ dst (.ref os.length 0 0))
    | none => False) := rfl
theorem op1_box {t : TypeId} {x : Operand} : op1K T C nF ⟨dst, .box t x, ty, pos, after, guard⟩ ⟨env, os⟩ K = ((ev env x).cells.all V.one = true ∧ K (St.put ⟨env, os ++ [.var (ev env x).cells false]⟩ dst (.ref os.length 0 0))) := rfl
theorem op1_load {t : TypeId} {x : Operand} : op1K T C nF ⟨dst, .load t x, ty, pos, after, guard⟩ ⟨env, os⟩ K = (match ti T t with
    | some i => loadK i ⟨env, os⟩ (evg T env x) fun v => K (St.put ⟨env, os⟩ dst v)
    | none => False) := rfl
theorem op1_store {t : TypeId} {a x : Operand} : op1K T C nF ⟨dst, .store t a x, ty, pos, after, guard⟩ ⟨env, os⟩ K = (match ti T t with
    | some i => storeK i ⟨env, os⟩ (ev env a) (ev env x) fun s => K (s.put dst .any)
    | none => False) := rfl
theorem op1_nilCheck {x : Operand} : op1K T C nF ⟨dst, .nilCheck x, ty, pos, after, guard⟩ ⟨env, os⟩ K = (match ev env x with
    | .ref o i j => K (St.put ⟨env, os⟩ dst (.ref o i j))
    | .d (.ptr cs) => K (St.put ⟨env, os⟩ dst (.d (.ptr cs)))
    | .fn (.func f) a b => K (St.put ⟨env, os⟩ dst (.fn (.func f) a b))
    | .d (.fn (.func f) a b) => K (St.put ⟨env, os⟩ dst (.d (.fn (.func f) a b)))
    | _ => False) := by
  simp only [op1K, opK]
  split <;> simp_all
theorem op1_bin {op : BinOp} {t t2 : TypeId} {x y : Operand} : op1K T C nF ⟨dst, .binOp op t x y t2, ty, pos, after, guard⟩ ⟨env, os⟩ K = (binK (tkE T t) op (ev env x) (ev env y) (fun v => K (St.put ⟨env, os⟩ dst v)) ∨ nilT (tk T t) op (ev env x) (ev env y) (fun v => K (St.put ⟨env, os⟩ dst v))) := rfl
theorem op1_not {t : TypeId} {x : Operand} : op1K T C nF ⟨dst, .unOp .not t x, ty, pos, after, guard⟩ ⟨env, os⟩ K = (match ev env x with
    | .d (.val (.bool b)) => K (St.put ⟨env, os⟩ dst (.d (.val (.bool !b))))
    | _ => False) := rfl
theorem op1_neg {t : TypeId} {x : Operand} : op1K T C nF ⟨dst, .unOp .neg t x, ty, pos, after, guard⟩ ⟨env, os⟩ K = (match ev env x with
    | .d (.val (.int k n)) => K (St.put ⟨env, os⟩ dst (.d (.val (.int k (k.wrap (0 - n))))))
    | _ => False) := rfl
theorem op1_fieldAddr {t : TypeId} {x : Operand} {f : Nat} : op1K T C nF ⟨dst, .fieldAddr t x f, ty, pos, after, guard⟩ ⟨env, os⟩ K = (match tk T t with
    | .st fs => match fs[f]?, ev env x with
      | some (off, n, _), .ref o i j => 0 < n ∧ K (St.put ⟨env, os⟩ dst (.ref o i (j + off)))
      | some (off, n, _), .d (.ptr cs) => 0 < n ∧ K (St.put ⟨env, os⟩ dst (.d (.ptr (cs.drop off))))
      | _, _ => False
    | _ => False) := rfl
theorem op1_indexAddr {t : TypeId} {x ix : Operand} : op1K T C nF ⟨dst, .indexAddr t x ix, ty, pos, after, guard⟩ ⟨env, os⟩ K = (match tk T t, vint (ev env ix) with
    | .sl e, some n => match ti T e with
      | some i => indexK i.size os (ev env x) n fun v => K (St.put ⟨env, os⟩ dst v)
      | none => False
    | _, _ => False) := rfl
theorem op1_index {t : TypeId} {x ix : Operand} : op1K T C nF ⟨dst, .index t x ix, ty, pos, after, guard⟩ ⟨env, os⟩ K = (match tk T t, ev env x, vint (ev env ix) with
    | .str, .d (.val (.string s)), some n => 0 ≤ n ∧ n < s.size ∧ K (St.put ⟨env, os⟩ dst (.d (.val (.int .u8 (s.data.toList.getD n.toNat 0).toNat))))
    | _, _, _ => False) := rfl
theorem op1_extract {x : Operand} {i : Nat} : op1K T C nF ⟨dst, .extract x i, ty, pos, after, guard⟩ ⟨env, os⟩ K = (match ev env x with
    | .tup vs => i < vs.length ∧ K (St.put ⟨env, os⟩ dst ((vs[i]?).getD .any))
    | _ => False) := rfl
theorem op1_call {f : Operand} {args : Array Operand} {ats : Array TypeId} : op1K T C nF ⟨dst, .call { callee := .value f, args, argTypes := ats }, ty, pos, after, guard⟩ ⟨env, os⟩ K =
    calleeK ⟨env, os⟩ f args.toList fun n vs => callK C ⟨env, os⟩ n vs fun v s => K (s.put dst v) := rfl
theorem op1_len {args : Array Operand} {ats : Array TypeId} : op1K T C nF ⟨dst, .call { callee := .builtin .len, args, argTypes := ats }, ty, pos, after, guard⟩ ⟨env, os⟩ K = (match ats.toList, args.toList with
    | [t], [x] => match tk T t, ev env x with
      | .str, .d (.val (.string s)) => K (St.put ⟨env, os⟩ dst (.d (.val (.int .i64 s.size))))
      | .sl _, .d (.sl es) => K (St.put ⟨env, os⟩ dst (.d (.val (.int .i64 es.length))))
      | .sl _, .d (.val (.slice none 0 0)) => K (St.put ⟨env, os⟩ dst (.d (.val (.int .i64 0))))
      | .sl _, .msl _ _ len => K (St.put ⟨env, os⟩ dst (.d (.val (.int .i64 len))))
      | _, _ => False
    | _, _ => False) := rfl
theorem op1_append {args : Array Operand} {ats : Array TypeId} (h : match ats.toList, args.toList with
    | [t, t'], [sx, x] => match tk T t, elems os (ev env x) with
      | .sl e, some news => match ti T e with
        | some i => t' = t ∧ appendK nF i ⟨env, os⟩ (ev env sx) news fun v s => K (s.put dst v)
        | none => False
      | _, _ => False
    | _, _ => False) : op1K T C nF ⟨dst, .call { callee := .builtin .append, args, argTypes := ats }, ty, pos, after, guard⟩ ⟨env, os⟩ K := .inl h
theorem op1_appendT {args : Array Operand} {ats : Array TypeId} (h : treeK T nF ⟨env, os⟩ (.call { callee := .builtin .append, args, argTypes := ats }) fun v s => K (s.put dst v)) : op1K T C nF ⟨dst, .call { callee := .builtin .append, args, argTypes := ats }, ty, pos, after, guard⟩ ⟨env, os⟩ K := .inr h
theorem op1_min {args : Array Operand} {ats : Array TypeId} : op1K T C nF ⟨dst, .call { callee := .builtin .min, args, argTypes := ats }, ty, pos, after, guard⟩ ⟨env, os⟩ K = (match args.toList with
    | [x, y] => match ev env x, ev env y with
      | .d (.val (.int k a)), .d (.val (.int _ b)) => K (St.put ⟨env, os⟩ dst (.d (.val (.int k (if b < a then b else a)))))
      | _, _ => False
    | _ => False) := rfl
theorem op1_max {args : Array Operand} {ats : Array TypeId} : op1K T C nF ⟨dst, .call { callee := .builtin .max, args, argTypes := ats }, ty, pos, after, guard⟩ ⟨env, os⟩ K = (match args.toList with
    | [x, y] => match ev env x, ev env y with
      | .d (.val (.int k a)), .d (.val (.int _ b)) => K (St.put ⟨env, os⟩ dst (.d (.val (.int k (if a < b then b else a)))))
      | _, _ => False
    | _ => False) := rfl
theorem op1_build {t : TypeId} {parts : Array (Nat × Operand)} : op1K T C nF ⟨dst, .build t parts, ty, pos, after, guard⟩ ⟨env, os⟩ K = (match ti T t with
    | some i => match i.k with
      | .st fs => match fillCells (fieldAt fs) (i.zero.map fun v => .d (.val v)) (parts.toList.map fun x => (x.1, ev env x.2)) with
        | some cs => K (St.put ⟨env, os⟩ dst (mkAgg cs))
        | none => False
      | _ => False
    | none => False) := rfl
theorem op1_buildSlice {t : TypeId} {len : Nat} {parts : Array (Nat × Operand)} (h : match tk T t with
    | .sl e => match ti T e with
      | some i => match fillCells (fun j => some (j * i.size, i.size)) (List.replicate len (i.zero.map fun v => V.d (.val v))).flatten (parts.toList.map fun x => (x.1, ev env x.2)) with
        | some cs => match mapL (leaf1 os) cs with
          | some (ds, l) => len * i.size ≤ 16777216 ∧ 0 < i.size ∧
              K (St.put ⟨env, freeze os l ++ [.arr i.size (chunk i.agg i.size len ds) false]⟩ dst (.msl os.length 0 len))
          | none => False
        | none => False
      | none => False
    | _ => False) : op1K T C nF ⟨dst, .buildSlice t len parts, ty, pos, after, guard⟩ ⟨env, os⟩ K := .inl h
theorem op1_buildSliceT {t : TypeId} {len : Nat} {parts : Array (Nat × Operand)} (h : treeK T nF ⟨env, os⟩ (.buildSlice t len parts) fun v s => K (s.put dst v)) : op1K T C nF ⟨dst, .buildSlice t len parts, ty, pos, after, guard⟩ ⟨env, os⟩ K := .inr h
theorem op1_makeSlice {t : TypeId} {l c : Operand} : op1K T C nF ⟨dst, .makeSlice t l c, ty, pos, after, guard⟩ ⟨env, os⟩ K = (match tk T t with
    | .sl e => match ti T e, ev env l, ev env c with
      | some i, .d (.val (.int _ n)), .d (.val (.int _ m)) => 0 ≤ n ∧ n ≤ m ∧ (i.bytes : Int) * m ≤ most ∧ m ≤ 9223372036854775807 ∧ 0 < i.size ∧
          K (St.put ⟨env, os ++ [.arr i.size (List.replicate n.toNat (zeroD i)) false]⟩ dst (.msl os.length 0 n.toNat))
      | _, _, _ => False
    | _ => False) := rfl
theorem op1_slice {t : TypeId} {x : Operand} {lo hi : Option Operand} : op1K T C nF ⟨dst, .slice t x lo hi none, ty, pos, after, guard⟩ ⟨env, os⟩ K = (match tk T t with
    | .str => sliceStrK (ev env x) (lo.map (ev env)) (hi.map (ev env)) fun v => K (St.put ⟨env, os⟩ dst v)
    | .sl e => match ti T e with
      | some i => sliceK i.size os (ev env x) (lo.map (ev env)) (hi.map (ev env)) fun v => K (St.put ⟨env, os⟩ dst v)
      | none => False
    | _ => False) := rfl
theorem op1_makeFunc {f : Fn} {a b : Array Operand} : op1K T C nF ⟨dst, .makeFunc f a b, ty, pos, after, guard⟩ ⟨env, os⟩ K = K (St.put ⟨env, os⟩ dst (mkFn f (a.toList.map (ev env)) (b.toList.map (ev env)))) := rfl
theorem op1_convert {a b : TypeId} {x : Operand} : op1K T C nF ⟨dst, .convert a b x, ty, pos, after, guard⟩ ⟨env, os⟩ K = (match tk T a, tk T b, ev env x with
    | .int _, .int k, .d (.val (.int _ n)) => K (St.put ⟨env, os⟩ dst (.d (.val (.int k (k.wrap n)))))
    | .str, .str, .d (.val (.string a)) => K (St.put ⟨env, os⟩ dst (.d (.val (.string a))))
    | .sl e, .str, x => bytesK (tk T e) (elems os x) fun v => K (St.put ⟨env, os⟩ dst v)
    | _, _, _ => False) := rfl

theorem ev_tmp {t : Tmp} : ev env (.tmp t) = look env t := rfl
theorem ev_func {f : FuncId} : ev env (.func f) = .d (.fn (.func f) [] []) := rfl
theorem ev_int {k : IntKind} {n : Int} : ev env (.const (.int k n)) = .d (.val (.int k n)) := rfl
theorem ev_bool {b : Bool} : ev env (.const (.bool b)) = .d (.val (.bool b)) := rfl
theorem ev_str {b : ByteArray} : ev env (.const (.string b)) = .d (.val (.string b)) := rfl
theorem ev_nil : ev env (.const (.slice none 0 0)) = .d (.val (.slice none 0 0)) := rfl
theorem ev_nilFunc : ev env (.const .nilFunc) = .d (.val .nilFunc) := rfl
theorem ev_agg {vs : Array Value} : ev env (.const (.agg vs)) = .d (.agg (vs.toList.map .val)) := rfl

theorem look_hit {t : Nat} {v : V} {e : List (Nat × V)} : look ((t, v) :: e) t = v := by rw [look_cons]; simp
theorem look_miss {k t : Nat} {v : V} {e : List (Nat × V)} (h : (k == t) = false) : look ((k, v) :: e) t = look e t := by rw [look_cons, h]; rfl

theorem bin_int {k : TK} {op : BinOp} {q q' : IntKind} {a b : Int} : binK k op (.d (.val (.int q a))) (.d (.val (.int q' b))) KW = intK op q a q' b KW := rfl
theorem bin_str {k : TK} {op : BinOp} {a b : ByteArray} : binK k op (.d (.val (.string a))) (.d (.val (.string b))) KW = strK op a b KW := rfl
theorem bin_bool {k : TK} {op : BinOp} {a b : Bool} : binK k op (.d (.val (.bool a))) (.d (.val (.bool b))) KW = (k.isBool = true ∧ eqneK op (a == b) KW) := rfl
theorem bin_nil {k : TK} {op : BinOp} {y : V} : binK k op (.d (.val (.slice none 0 0))) y KW = (nilV y = true ∧ k.isSl = true ∧ eqneK op true KW) := rfl
theorem bin_sl {k : TK} {op : BinOp} {y : V} {es : List D} : binK k op (.d (.sl es)) y KW = (nilV y = true ∧ k.isSl = true ∧ 0 < es.length ∧ eqneK op false KW) := rfl
theorem bin_msl {k : TK} {op : BinOp} {y : V} {o a len : Nat} : binK k op (.msl o a len) y KW = (nilV y = true ∧ k.isSl = true ∧ 0 < len ∧ eqneK op false KW) := rfl
theorem int_add {q : IntKind} {a b : Int} : intK .add q a q b KW = KW (.d (.val (.int q (q.wrap (a + b))))) := by simp [intK, arith]
theorem int_sub {q : IntKind} {a b : Int} : intK .sub q a q b KW = KW (.d (.val (.int q (q.wrap (a - b))))) := by simp [intK, arith]
theorem int_mul {q : IntKind} {a b : Int} : intK .mul q a q b KW = KW (.d (.val (.int q (q.wrap (a * b))))) := by simp [intK, arith]
theorem int_eql {q : IntKind} {a b : Int} : intK .eql q a q b KW = KW (.d (.val (.bool (a == b)))) := by simp [intK, arith]
theorem int_neq {q : IntKind} {a b : Int} : intK .neq q a q b KW = KW (.d (.val (.bool (a != b)))) := by simp [intK, arith]
theorem int_lss {q : IntKind} {a b : Int} : intK .lss q a q b KW = KW (.d (.val (.bool (decide (a < b))))) := by simp [intK, arith]
theorem int_leq {q : IntKind} {a b : Int} : intK .leq q a q b KW = KW (.d (.val (.bool (decide (a ≤ b))))) := by simp [intK, arith]
theorem int_gtr {q : IntKind} {a b : Int} : intK .gtr q a q b KW = KW (.d (.val (.bool (decide (b < a))))) := by simp [intK, arith]
theorem int_geq {q : IntKind} {a b : Int} : intK .geq q a q b KW = KW (.d (.val (.bool (decide (b ≤ a))))) := by simp [intK, arith]
theorem int_quo {q : IntKind} {a b : Int} : intK .quo q a q b KW = (b ≠ 0 ∧ KW (.d (.val (.int q (q.wrap (a.tdiv b)))))) := by simp [intK]
theorem int_rem {q : IntKind} {a b : Int} : intK .rem q a q b KW = (b ≠ 0 ∧ KW (.d (.val (.int q (a.tmod b))))) := by simp [intK]
theorem eqne_eql {t : Bool} : eqneK .eql t KW = KW (.d (.val (.bool t))) := rfl
theorem eqne_neq {t : Bool} : eqneK .neq t KW = KW (.d (.val (.bool !t))) := rfl
theorem loadK_eq {i : TI} {a : V} : loadK i ⟨env, os⟩ a KW = (match a with
  | .ref o e j => match os[o]? with
    | some (.var cs _) => e = 0 ∧ j + (bif i.agg then i.size else 1) ≤ cs.length ∧ KW (ofCells i.agg (cs.drop j) i.size)
    | some (.arr _ es _) => e < es.length ∧ j + (bif i.agg then i.size else 1) ≤ (gd es e).cells.length ∧ KW (.d (dOfCells i.agg ((gd es e).cells.drop j) i.size))
    | some (.tree _ es) => e < es.length ∧ j + (bif i.agg then i.size else 1) ≤ (gv es e).cells.length ∧ (((gv es e).cells.drop j).take (bif i.agg then i.size else 1)).all V.lo = true ∧ KW (ofCells i.agg ((gv es e).cells.drop j) i.size)
    | _ => False
  | .d (.ptr cs) => (bif i.agg then i.size else 1) ≤ cs.length ∧ KW (.d (dOfCells i.agg cs i.size))
  | _ => False) := rfl
theorem storeK_eq {i : TI} {a x : V} : storeK i ⟨env, os⟩ a x K = (x.cells.length = i.size ∧ x.cells.all V.one = true ∧
  match a with
  | .ref o e j => match os[o]? with
    | some (.var cs false) => e = 0 ∧ j + i.size ≤ cs.length ∧ K ⟨env, os.set o (.var (setRange cs j x.cells) false)⟩
    | some (.arr sz es false) => match mapL (leaf1 os) x.cells with
      | some (ds, l) => e < es.length ∧ j + i.size ≤ (gd es e).cells.length ∧ (l.contains o = false) ∧ 0 < i.size ∧
          K ⟨env, (freeze os l).set o (.arr sz (es.set e (setElem (gd es e) j ds)) false)⟩
      | none => False
    | some (.tree sz es) => x.cells.all V.lo = true ∧ e < es.length ∧ j + i.size ≤ (gv es e).cells.length ∧ 0 < i.size ∧
        K ⟨env, os.set o (.tree sz (es.set e (setV (gv es e) j x.cells)))⟩
    | _ => False
  | _ => False) := rfl
theorem indexK_eq {n : Nat} {x : V} {ix : Int} : indexK n os x ix KW = (match x with
  | .msl o off len => 0 ≤ ix ∧ ix < len ∧ sizeIs os o n ∧ KW (.ref o (off + ix.toNat) 0)
  | .d (.sl es) => 0 ≤ ix ∧ ix < es.length ∧ (gd es ix.toNat).cells.length = n ∧ KW (.d (.ptr (gd es ix.toNat).cells))
  | _ => False) := rfl
theorem sliceK_sl {n : Nat} {es : List D} {lo hi : Option V} : sliceK n os (.d (.sl es)) lo hi KW = boundsK es.length lo hi fun l h => (l = h ∨ (gd es l).cells.length = n) ∧ KW (.d (.sl ((es.drop l).take (h - l)))) := rfl
theorem sliceK_msl {n : Nat} {o off len : Nat} {lo hi : Option V} : sliceK n os (.msl o off len) lo hi KW = boundsK len lo hi fun l h => sizeIs os o n ∧ KW (.msl o (off + l) (h - l)) := rfl
theorem boundsK_hi {n : Nat} {k : IntKind} {h : Int} {F : Nat → Nat → Prop} : boundsK n none (some (.d (.val (.int k h)))) F = ((0 : Int) ≤ 0 ∧ 0 ≤ h ∧ h ≤ n ∧ F (0 : Int).toNat h.toNat) := rfl
theorem boundsK_lo {n : Nat} {k : IntKind} {l : Int} {F : Nat → Nat → Prop} : boundsK n (some (.d (.val (.int k l)))) none F = (0 ≤ l ∧ l ≤ n ∧ (n : Int) ≤ n ∧ F l.toNat (n : Int).toNat) := rfl
theorem boundsK_both {n : Nat} {k k' : IntKind} {l h : Int} {F : Nat → Nat → Prop} : boundsK n (some (.d (.val (.int k l)))) (some (.d (.val (.int k' h)))) F = (0 ≤ l ∧ l ≤ h ∧ h ≤ n ∧ F l.toNat h.toNat) := rfl
end
end Go.PL
