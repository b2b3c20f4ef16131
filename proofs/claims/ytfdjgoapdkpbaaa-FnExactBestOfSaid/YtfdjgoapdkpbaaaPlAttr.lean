/- A plain machine, sound for the given model, and contracts of functions over it, part 11: PlAttr. Nothing is assumed. -/
import Derived.Test.YtfdjgoapdkpbaaaPlGo
set_option linter.unusedSimpArgs false
set_option linter.unusedVariables false
set_option linter.unusedSectionVars false
/- PlAttr -/
/- Lists of coded elements; the simp set of the walk. -/
namespace Go.PL
open Go

/-- A coding of elements: how many cells each has; what stands for one that is not there. -/
class Enc {α : Type} (f : α → D) (n : outParam Nat) (d : outParam α) : Prop where
  len : ∀ x, (f x).cells.length = n
  one : ∀ x, ∀ c ∈ (f x).cells, c.one = true

instance : Enc D.i 1 0 := ⟨fun _ => rfl, fun x => by simp [D.cells, D.one]⟩
instance : Enc D.b 1 false := ⟨fun _ => rfl, fun x => by simp [D.cells, D.one]⟩
instance : Enc D.s 1 ByteArray.empty := ⟨fun _ => rfl, fun x => by simp [D.cells, D.one]⟩

section
variable {T : Tab} {C : Call} {nF : Nat} {s : St} {env : List (Nat × V)} {os : List Ob} {Q : Ex → St → Prop} {K : St → Prop} {KW : V → Prop} {KV : V → St → Prop}
variable {α : Type} {f : α → D} {n : Nat} {d : α} {l m : List α}

theorem look_consC {k t : Nat} {v : V} {r : List (Nat × V)} : look ((k, v) :: r) t = bif k == t then v else look r t := look_cons k t v r

theorem gd_mapE (d : α) {i : Nat} (h : i < l.length) : gd (l.map f) i = f (l.getD i d) := by
  simp [gd, List.getD, h]


theorem bindP_arr [Enc f n d] {e j k : Nat} {i : TI} : bindP (arrF (l.map f) e j k i) KW = (e < l.length ∧ j + k ≤ n ∧ KW (.d (dOfCells i.agg ((f (l.getD e d)).cells.drop j) i.size))) := by
  unfold arrF
  rw [List.length_map, bindP_some, and_assoc]
  by_cases h : e < l.length
  · rw [gd_mapE d h, Enc.len (f := f)]
  · simp [h]
theorem arrF_cons {x : D} {r : List D} {e j k : Nat} {i : TI} : arrF (x :: r) e j k i = some (e < (x :: r).length ∧ j + k ≤ (gd (x :: r) e).cells.length, .d (dOfCells i.agg ((gd (x :: r) e).cells.drop j) i.size)) := rfl
theorem bindO_arr [Enc f n d] {P : Prop} {e j k : Nat} {ds : List D} {F : List D → List Ob} {KO : V → List Ob → Prop} : bindO (arrG P (l.map f) e j k ds F) KO =
    bindO (some (P ∧ e < l.length ∧ j + k ≤ n, .any, F ((l.map f).set e (setElem (f (l.getD e d)) j ds)))) KO := by
  unfold arrG
  rw [List.length_map, bindO_some, bindO_some]
  by_cases h : e < l.length
  · rw [gd_mapE d h, Enc.len (f := f)]
  · simp [h]
theorem arrG_cons {P : Prop} {x : D} {r : List D} {e j k : Nat} {ds : List D} {F : List D → List Ob} : arrG P (x :: r) e j k ds F = some (P ∧ e < (x :: r).length ∧ j + k ≤ (gd (x :: r) e).cells.length, .any, F ((x :: r).set e (setElem (gd (x :: r) e) j ds))) := rfl
theorem indexF_msl {k : Nat} {o off len : Nat} {ix : Int} : indexF k os (.msl o off len) ix = some (0 ≤ ix ∧ ix < len ∧ sizeIs os o k, .ref o (off + ix.toNat) 0) := rfl
theorem indexF_cons {k : Nat} {x : D} {r : List D} {ix : Int} : indexF k os (.d (.sl (x :: r))) ix = some (0 ≤ ix ∧ ix < (x :: r).length ∧ (gd (x :: r) ix.toNat).cells.length = k, .d (.ptr (gd (x :: r) ix.toNat).cells)) := rfl
theorem bindP_index [Enc f n d] {k : Nat} {ix : Int} : bindP (indexF k os (.d (.sl (l.map f))) ix) KW = (0 ≤ ix ∧ ix < l.length ∧ n = k ∧ KW (.d (.ptr (f (l.getD ix.toNat d)).cells))) := by
  simp only [indexF, bindP_some]
  rw [List.length_map]
  by_cases h : 0 ≤ ix ∧ ix < l.length
  · rw [gd_mapE d (by omega), Enc.len (f := f), and_assoc, and_assoc]
  · simp only [eq_iff_iff]
    exact ⟨fun g => absurd ⟨g.1.1, g.1.2.1⟩ h, fun g => absurd ⟨g.1, g.2.1⟩ h⟩
theorem gd_consZ {x : D} {r : List D} : gd (x :: r) 0 = x := rfl
theorem gd_consS {x : D} {r : List D} {k : Nat} : gd (x :: r) (k + 1) = gd r k := rfl
theorem bdsF_hi {k : Nat} {q : IntKind} {h : Int} {F : Nat → Nat → Option (Prop × V)} : bdsF k none (some (.d (.val (.int q h)))) F = andF (0 ≤ h ∧ h ≤ k) (F 0 h.toNat) := by
  show andF ((0 : Int) ≤ 0 ∧ 0 ≤ h ∧ h ≤ k) (F (0 : Int).toNat h.toNat) = _
  simp
theorem bdsF_lo {k : Nat} {q : IntKind} {h : Int} {F : Nat → Nat → Option (Prop × V)} : bdsF k (some (.d (.val (.int q h)))) none F = andF (0 ≤ h ∧ h ≤ k) (F h.toNat k) := by
  show andF (0 ≤ h ∧ h ≤ k ∧ (k : Int) ≤ k) (F h.toNat (k : Int).toNat) = _
  simp
theorem bdsF_lh {k : Nat} {q q' : IntKind} {a b : Int} {F : Nat → Nat → Option (Prop × V)} : bdsF k (some (.d (.val (.int q a)))) (some (.d (.val (.int q' b)))) F = andF (0 ≤ a ∧ a ≤ b ∧ b ≤ k) (F a.toNat b.toNat) := rfl
theorem bdsF_cong {k : Nat} {lo hi : Option V} {F G : Nat → Nat → Option (Prop × V)} (h : ∀ a b, a ≤ b → b ≤ k → bindP (F a b) KW = bindP (G a b) KW) : bindP (bdsF k lo hi F) KW = bindP (bdsF k lo hi G) KW := by
  unfold bdsF
  generalize bnd 0 lo = x
  generalize bnd (k : Int) hi = y
  cases x with
  | none => rfl
  | some x =>
    cases y with
    | none => rfl
    | some y =>
      simp only [bindP_and, eq_iff_iff]
      exact ⟨fun g => ⟨g.1, by rw [← h _ _ (by omega) (by omega)]; exact g.2⟩, fun g => ⟨g.1, by rw [h _ _ (by omega) (by omega)]; exact g.2⟩⟩
theorem bindP_slice [Enc f n d] {lo hi : Option V} : bindP (sliceF n os (.d (.sl (l.map f))) lo hi) KW = bindP (bdsF l.length lo hi fun a b => some (True, .d (.sl (((l.drop a).take (b - a)).map f)))) KW := by
  show bindP (bdsF (l.map f).length lo hi fun a b => some (a = b ∨ (gd (l.map f) a).cells.length = n, .d (.sl (((l.map f).drop a).take (b - a))))) KW = _
  rw [List.length_map]
  refine bdsF_cong fun a b h1 h2 => ?_
  rw [List.map_take, List.map_drop, bindP_t, bindP_some]
  by_cases h : a = b
  · simp [h]
  · rw [gd_mapE d (by omega), Enc.len (f := f)]; simp
theorem sliceF_msl {k o off len : Nat} {lo hi : Option V} : sliceF k os (.msl o off len) lo hi = bdsF len lo hi fun l h => some (sizeIs os o k, .msl o (off + l) (h - l)) := rfl
theorem sliceF_cons {k : Nat} {x : D} {r : List D} {lo hi : Option V} : sliceF k os (.d (.sl (x :: r))) lo hi = bdsF (x :: r).length lo hi fun a b => some (a = b ∨ (gd (x :: r) a).cells.length = k, .d (.sl (((x :: r).drop a).take (b - a)))) := rfl
theorem strSlF_s {b : ByteArray} {lo hi : Option V} : strSlF (.d (.val (.string b))) lo hi = bdsF b.size lo hi fun l h => some (True, .d (.val (.string (b.extract l h)))) := rfl

theorem iF_add {q : IntKind} {a b : Int} : intF .add q a q b = some (True, .d (.val (.int q (q.wrap (a + b))))) := by simp [intF, arith]
theorem iF_sub {q : IntKind} {a b : Int} : intF .sub q a q b = some (True, .d (.val (.int q (q.wrap (a - b))))) := by simp [intF, arith]
theorem iF_mul {q : IntKind} {a b : Int} : intF .mul q a q b = some (True, .d (.val (.int q (q.wrap (a * b))))) := by simp [intF, arith]
theorem iF_eql {q : IntKind} {a b : Int} : intF .eql q a q b = some (True, .d (.val (.bool (a == b)))) := by simp [intF, arith]
theorem iF_neq {q : IntKind} {a b : Int} : intF .neq q a q b = some (True, .d (.val (.bool (a != b)))) := by simp [intF, arith]
theorem iF_lss {q : IntKind} {a b : Int} : intF .lss q a q b = some (True, .d (.val (.bool (decide (a < b))))) := by simp [intF, arith]
theorem iF_leq {q : IntKind} {a b : Int} : intF .leq q a q b = some (True, .d (.val (.bool (decide (a ≤ b))))) := by simp [intF, arith]
theorem iF_gtr {q : IntKind} {a b : Int} : intF .gtr q a q b = some (True, .d (.val (.bool (decide (b < a))))) := by simp [intF, arith]
theorem iF_geq {q : IntKind} {a b : Int} : intF .geq q a q b = some (True, .d (.val (.bool (decide (b ≤ a))))) := by simp [intF, arith]
theorem iF_quo {q : IntKind} {a b : Int} : intF .quo q a q b = some (b ≠ 0, .d (.val (.int q (q.wrap (a.tdiv b))))) := by simp [intF]
theorem iF_rem {q : IntKind} {a b : Int} : intF .rem q a q b = some (b ≠ 0, .d (.val (.int q (a.tmod b)))) := by simp [intF]
theorem sF_add {a b : ByteArray} : strF .add a b = some (a.size + b.size ≤ 9223372036854775807, .d (.val (.string (a ++ b)))) := rfl
theorem sF_eql {a b : ByteArray} : strF .eql a b = some (True, .d (.val (.bool (a.toList == b.toList)))) := rfl
theorem sF_neq {a b : ByteArray} : strF .neq a b = some (True, .d (.val (.bool !(a.toList == b.toList)))) := rfl
theorem eF_eql {t : Bool} : eqneF .eql t = some (True, .d (.val (.bool t))) := rfl
theorem eF_neq {t : Bool} : eqneF .neq t = some (True, .d (.val (.bool !t))) := rfl
theorem bF_int {k : TK} {op : BinOp} {q q' : IntKind} {a b : Int} : binF k op (.d (.val (.int q a))) (.d (.val (.int q' b))) = intF op q a q' b := rfl
theorem bF_str {k : TK} {op : BinOp} {a b : ByteArray} : binF k op (.d (.val (.string a))) (.d (.val (.string b))) = strF op a b := rfl
theorem bF_bool {k : TK} {op : BinOp} {a b : Bool} : binF k op (.d (.val (.bool a))) (.d (.val (.bool b))) = andF (k.isBool = true) (eqneF op (a == b)) := rfl
theorem bF_agg {k : TK} {op : BinOp} {as bs : List D} : binF k op (.d (.agg as)) (.d (.agg bs)) = eqneO op (eqsK k as bs) := rfl
theorem eqneO_some {op : BinOp} {b : Bool} : eqneO op (some b) = eqneF op b := rfl
theorem eqsK_eqs {l : List EK} {as bs : List D} : eqsK (.eqs l) as bs = eqL l as bs := rfl
def optB (b : Bool) (x : Option Bool) : Option Bool := x.map fun r => b && r
theorem optB_some {b c : Bool} : optB b (some c) = some (b && c) := rfl
theorem eqL_nil : eqL [] [] [] = some true := rfl
theorem eqL_int {k q : IntKind} {l : List EK} {a b : Int} {as bs : List D} : eqL (.int k :: l) (.val (.int q a) :: as) (.val (.int q b) :: bs) = optB (a == b) (eqL l as bs) := if_pos rfl
theorem eqL_bool {l : List EK} {a b : Bool} {as bs : List D} : eqL (.bool :: l) (.val (.bool a) :: as) (.val (.bool b) :: bs) = optB (a == b) (eqL l as bs) := rfl
theorem eqL_str {l : List EK} {a b : ByteArray} {as bs : List D} : eqL (.str :: l) (.val (.string a) :: as) (.val (.string b) :: bs) = optB (a.toList == b.toList) (eqL l as bs) := rfl
theorem bF_nil {k : TK} {op : BinOp} {y : V} : binF k op (.d (.val (.slice none 0 0))) y = andF (nilV y = true ∧ k.isSl = true) (eqneF op true) := rfl
theorem bF_sl {k : TK} {op : BinOp} {y : V} {es : List D} : binF k op (.d (.sl es)) y = andF (nilV y = true ∧ k.isSl = true ∧ 0 < es.length) (eqneF op false) := rfl
theorem bF_msl {k : TK} {op : BinOp} {y : V} {o a len : Nat} : binF k op (.msl o a len) y = andF (nilV y = true ∧ k.isSl = true ∧ 0 < len) (eqneF op false) := rfl
theorem newsOk_map [Enc f n d] {k : Nat} (h : n = k) : newsOk k (l.map f) := by
  subst h
  intro e he
  simp only [List.mem_map] at he
  obtain ⟨x, _, rfl⟩ := he
  exact ⟨Enc.len (f := f) x, Enc.one (f := f) x⟩
theorem newsOk_nil {k : Nat} : newsOk k [] = True := by simp [newsOk]
def onesD : List D → Bool
  | [] => true
  | c :: r => c.one && onesD r
theorem onesD_eq : ∀ l : List D, onesD l = true ↔ ∀ c ∈ l, c.one = true
  | [] => by simp [onesD]
  | c :: r => by simp [onesD, onesD_eq r]
theorem onesD_nil : onesD [] = true := rfl
theorem onesD_cons {c : D} {r : List D} : onesD (c :: r) = (c.one && onesD r) := rfl
theorem newsOk_cons {k : Nat} {x : D} {r : List D} : newsOk k (x :: r) = (x.cells.length = k ∧ onesD x.cells = true ∧ newsOk k r) := by
  simp only [newsOk, List.mem_cons, forall_eq_or_imp, onesD_eq, eq_iff_iff, and_assoc]
theorem newsOk_mapT [Enc f n d] : newsOk n (l.map f) = True := by simp [newsOk_map]

def killL (o : Nat) : List V → List V
  | [] => []
  | x :: r => kill1 o x :: killL o r
theorem killL_eq {o : Nat} : ∀ {l : List V}, killL o l = l.map (kill1 o)
  | [] => rfl
  | x :: r => by rw [killL, killL_eq (l := r)]; rfl
theorem killE_nil {o : Nat} : killE o [] = [] := rfl
theorem killE_cons {o t : Nat} {v : V} {r : List (Nat × V)} : killE o ((t, v) :: r) = (t, PL.kill o v) :: killE o r := rfl
theorem killO_nil {o : Nat} : killO o [] = [] := rfl
theorem killO_cons {o : Nat} {v : Ob} {r : List Ob} : killO o (v :: r) = v.kill o :: killO o r := rfl
theorem killL_nil {o : Nat} : killL o [] = [] := rfl
theorem killL_cons {o : Nat} {v : V} {r : List V} : killL o (v :: r) = kill1 o v :: killL o r := rfl
theorem killVs_nil {o : Nat} : killV o [] = [] := rfl
theorem killVs_cons {o : Nat} {v : V} {r : List V} : killV o (v :: r) = PL.kill o v :: killV o r := rfl
theorem killV_agg {o : Nat} {cs : List V} : PL.kill o (.agg cs) = .agg (killL o cs) := by rw [kill_agg, killL_eq]
theorem kill_fn' {o : Nat} {g : Fn} {a b : List V} : PL.kill o (.fn g a b) = .fn g (killL o a) (killL o b) := by rw [killL_eq, killL_eq]; rfl
theorem kill_tup {o : Nat} {a : List V} : PL.kill o (.tup a) = .any := rfl
theorem kill1_any {o : Nat} : kill1 o .any = .any := rfl
theorem kill1_ref {o o' i j : Nat} : kill1 o (.ref o' i j) = bif o' == o then .any else .ref o' i j := by simp [kill1, beq_beq]
theorem killOb_var {o : Nat} {cs : List V} {fz : Bool} : Ob.kill o (.var cs fz) = .var (killV o cs) fz := by rw [okill_var, killV_eq]

theorem take_mapE {k : Nat} : (l.map f).take k = (l.take k).map f := List.map_take.symm
theorem drop_mapE {k : Nat} : (l.map f).drop k = (l.drop k).map f := List.map_drop.symm
theorem app_mapE : l.map f ++ m.map f = (l ++ m).map f := List.map_append.symm
theorem app_i {a : List Int} {x : Int} : a.map D.i ++ [D.val (.int .i64 x)] = (a ++ [x]).map D.i := by simp
theorem app_s {a : List ByteArray} {x : ByteArray} : a.map D.s ++ [D.val (.string x)] = (a ++ [x]).map D.s := by simp
theorem sl_i {x : Int} : D.sl [D.val (.int .i64 x)] = D.sl ([x].map D.i) := rfl
theorem arr_i {x : Int} {fz : Bool} : Ob.arr 1 [D.val (.int .i64 x)] fz = .arr 1 ([x].map D.i) fz := rfl
theorem arr_s {x : ByteArray} {fz : Bool} : Ob.arr 1 [D.val (.string x)] fz = .arr 1 ([x].map D.s) fz := rfl
theorem set_i {a : List Int} {k : Nat} {x : Int} : (a.map D.i).set k (D.val (.int .i64 x)) = (a.set k x).map D.i := by rw [List.map_set]
theorem set_s {a : List ByteArray} {k : Nat} {x : ByteArray} : (a.map D.s).set k (D.val (.string x)) = (a.set k x).map D.s := by rw [List.map_set]
theorem rep_i {k : Nat} {x : Int} : List.replicate k (D.val (.int .i64 x)) = (List.replicate k x).map D.i := by rw [List.map_replicate]
theorem rep_s {k : Nat} {x : ByteArray} : List.replicate k (D.val (.string x)) = (List.replicate k x).map D.s := by rw [List.map_replicate]

/-- Cells of data, as values. -/
theorem vc_dV {x : D} : (V.d x).cells = dV x.cells := by rw [vc_d, dV_eq]
theorem allD_dV : ∀ {l : List D}, allD (dV l) = some l
  | [] => rfl
  | x :: r => by simp only [dV, allD, V.isD, allD_dV (l := r)]
def zD : List Value → List D
  | [] => []
  | x :: r => .val x :: zD r
theorem zD_eq : ∀ {l : List Value}, zD l = l.map .val
  | [] => rfl
  | x :: r => by rw [zD, zD_eq (l := r)]; rfl
theorem zeroD_eq {i : TI} : zeroD i = if i.agg then .agg (zD i.zero) else (zD i.zero).head?.getD (.i 0) := by rw [zD_eq]; rfl
theorem zD_nil : zD [] = [] := rfl
theorem zD_cons {x : Value} {r : List Value} : zD (x :: r) = .val x :: zD r := rfl
theorem ev_aggC {vs : List Value} : ev env (.const (.agg vs.toArray)) = .d (.agg (zD vs)) := by rw [zD_eq]; rfl

/-- The results, read and made data. -/
def finS (a : Option (List D × List Nat)) (r : V) : Prop := match a with
  | some (ds, _) => resOf (dV ds) = r
  | none => False
def finR (rs : Option (List V)) (os : List Ob) (r : V) : Prop :=
  match rs with
  | some vs => finS (mapL (leaf os) vs) r
  | none => False
theorem finD_eq {rs : List ResultVar} {r : V} : finD T rs r ⟨env, os⟩ = finR (resVs T ⟨env, os⟩ rs) os r := by
  unfold finD finR
  split
  · rename_i vs h
    rw [h]
    simp only [finS]
    cases mapL (leaf os) vs with
    | none => rfl
    | some x => simp only [dV_eq]
  · rename_i h
    rw [h]
def finSN (a : Option (List D × List Nat)) (r : V) : Prop := match a with
  | some (ds, _) => resOf (nnV ds) = r
  | none => False
def finRN (rs : Option (List V)) (os : List Ob) (r : V) : Prop :=
  match rs with
  | some vs => finSN (mapL (leaf os) vs) r
  | none => False
theorem finN_eq {rs : List ResultVar} {r : V} : finN T rs r ⟨env, os⟩ = finRN (resVs T ⟨env, os⟩ rs) os r := by
  unfold finN finRN
  split
  · rename_i vs h
    rw [h]
    simp only [finSN]
    cases mapL (leaf os) vs with
    | none => rfl
    | some x => rfl
  · rename_i h
    rw [h]
theorem finRN_some {vs : List V} {r : V} : finRN (some vs) os r = finSN (mapL (leaf os) vs) r := rfl
theorem finSN_some {ds : List D} {ks : List Nat} {r : V} : finSN (some (ds, ks)) r = (resOf (nnV ds) = r) := rfl
theorem nnV_nil : nnV [] = [] := rfl
theorem nnV_cons {x : D} {r : List D} : nnV (x :: r) = .d (nnD x) :: nnV r := rfl
theorem nnL_nil : nnL [] = [] := rfl
theorem nnL_cons {x : D} {r : List D} : nnL (x :: r) = nn0 x :: nnL r := rfl
theorem nnD_agg {cs : List D} : nnD (.agg cs) = .agg (nnL cs) := rfl
theorem nnD_nil : nnD (.val (.slice none 0 0)) = .sl [] := rfl
theorem nnD_int {k : IntKind} {n : Int} : nnD (.val (.int k n)) = .val (.int k n) := rfl
theorem nnD_bool {n : Bool} : nnD (.val (.bool n)) = .val (.bool n) := rfl
theorem nnD_str {n : ByteArray} : nnD (.val (.string n)) = .val (.string n) := rfl
theorem nnD_sl {n : List D} : nnD (.sl n) = .sl n := rfl
theorem nnD_ptr {n : List D} : nnD (.ptr n) = .ptr n := rfl
theorem nnD_fn {g : Fn} {x y : List D} : nnD (.fn g x y) = .fn g x y := rfl
theorem nn0_nil : nn0 (.val (.slice none 0 0)) = .sl [] := rfl
theorem nn0_int {k : IntKind} {n : Int} : nn0 (.val (.int k n)) = .val (.int k n) := rfl
theorem nn0_bool {n : Bool} : nn0 (.val (.bool n)) = .val (.bool n) := rfl
theorem nn0_str {n : ByteArray} : nn0 (.val (.string n)) = .val (.string n) := rfl
theorem nn0_sl {n : List D} : nn0 (.sl n) = .sl n := rfl
theorem nn0_ptr {n : List D} : nn0 (.ptr n) = .ptr n := rfl
theorem nn0_fn {g : Fn} {x y : List D} : nn0 (.fn g x y) = .fn g x y := rfl
/-- A call whose nil slices are handed in as slices of no elements. -/
theorem pcD_nn {P : Program} [TOk T P] {X : Call} {n : FuncId} {ds : List D} {ks : List Nat} {K : V → List Ob → Prop} (h : pcD (Den P T X) n (nnV ds) ks os K) : pcD (Den P T X) n (dV ds) ks os K := by
  obtain ⟨r, h1, h2⟩ := h
  exact ⟨r, Den.le ⟨by simp [nnV_len, dV_eq], fun i hi => by simp only [dV_eq, List.getElem_map]; exact nnV_le ds i (by simpa [dV_eq] using hi)⟩ (.refl _) h1, h2⟩
theorem pcDQ_nn {P : Program} [TOk T P] {X : Call} {n : FuncId} {ds : List D} {ks : List Nat} {K : V → Prop} (h : pcDQ (Den P T X) n (nnV ds) ks K) : pcDQ (Den P T X) n (dV ds) ks K := by
  obtain ⟨r, h1, h2⟩ := h
  exact ⟨r, Den.le ⟨by simp [nnV_len, dV_eq], fun i hi => by simp only [dV_eq, List.getElem_map]; exact nnV_le ds i (by simpa [dV_eq] using hi)⟩ (.refl _) h1, h2⟩
theorem r1_callN {P : Program} [TOk T P] {X : Call} {d : Tmp} {f : Operand} {args : List Operand} {ats : Array TypeId} {n : FuncId} {vs us : List V} {ds : List D} {l : List Nat} (hf : calleeR (ev env f) (evL env args) = some (n, vs)) (hl : mapL (leaf os) vs = some (ds, l)) (hv : nnV ds = us)
    (h : pcD (Den P T X) n us l os (fun v os' => K ⟨(d, v) :: env, os'⟩)) : op1R T (Den P T X) nF (some d) (.call { callee := .value f, args := args.toArray, argTypes := ats }) ⟨env, os⟩ K :=
  r1_callE hf hl rfl (pcD_nn (hv ▸ h))
theorem r1_call0N {P : Program} [TOk T P] {X : Call} {f : Operand} {args : List Operand} {ats : Array TypeId} {n : FuncId} {vs us : List V} {ds : List D} {l : List Nat} (hf : calleeR (ev env f) (evL env args) = some (n, vs)) (hl : mapL (leaf os) vs = some (ds, l)) (hv : nnV ds = us)
    (h : pcD (Den P T X) n us l os (fun _ os' => K ⟨env, os'⟩)) : op1R T (Den P T X) nF none (.call { callee := .value f, args := args.toArray, argTypes := ats }) ⟨env, os⟩ K :=
  r1_call0E hf hl rfl (pcD_nn (hv ▸ h))
theorem rq_callN {P : Program} [TOk T P] {X : Call} {d : Tmp} {f : Operand} {args : List Operand} {ats : Array TypeId} {n : FuncId} {vs us : List V} {ds : List D} {l : List Nat} (hf : calleeR (ev env f) (evL env args) = some (n, vs)) (hl : mapL (leaf os) vs = some (ds, l)) (hv : nnV ds = us)
    (h : pcDQ (Den P T X) n us l (fun v => K ⟨(d, v) :: env, os⟩)) : q1R T (Den P T X) nF (some d) (.call { callee := .value f, args := args.toArray, argTypes := ats }) ⟨env, os⟩ K :=
  rq_callE hf hl rfl (pcDQ_nn (hv ▸ h))
theorem finR_some {vs : List V} {r : V} : finR (some vs) os r = finS (mapL (leaf os) vs) r := rfl
theorem finS_some {ds : List D} {ks : List Nat} {r : V} : finS (some (ds, ks)) r = (resOf (dV ds) = r) := rfl

def initE : Nat → List V → List (Nat × V)
  | _, [] => []
  | k, v :: r => (k, v) :: initE (k + 1) r
theorem initE_eq : ∀ (k : Nat) (l : List V), initE k l = (List.range' k l.length).zip l
  | _, [] => rfl
  | k, v :: r => by rw [initE, initE_eq (k + 1) r]; rfl
theorem init_eq {args : List V} : init args os = ⟨initE 0 args, os⟩ := by
  unfold init
  congr 1
  rw [List.range_eq_range']
  exact (initE_eq 0 args).symm
theorem initE_nil {k : Nat} : initE k [] = [] := rfl
theorem initE_cons {k : Nat} {v : V} {r : List V} : initE k (v :: r) = (k, v) :: initE (k + 1) r := rfl

theorem w64 {n : Int} (h1 : -9223372036854775808 ≤ n) (h2 : n < 9223372036854775808) : IntKind.wrap .i64 n = n := wrap_id h1 h2

/-- Less is known; told by a list of places. -/
theorem Wp.loopR {β : Type} {a : Code} (S : β → St) (μ : β → Nat) (J : β → Prop) (a0 : β) (hw : Weak nF s (S a0)) (hJ : J a0)
    (round : ∀ x, J x → ∀ K : St → Prop, Imp (fun s' => ∃ y, μ y < μ x ∧ J y ∧ Weak nF s' (S y)) K → Wp T C nF a (S x) (thn K Q)) : Wp T C nF (.loop a) s Q :=
  .loopK S μ J a0 hw hJ fun x hx K hK => round x hx K fun s' ⟨y, h1, h2, h3⟩ => hK s' ⟨y, h1, h3, h2⟩
end

theorem Den.pureI {P : Program} {T : Tab} [TOk T P] {X : Call} {f : FuncId} {fn : Func} {body : Code} {a : List V} {r : V} {env : List (Nat × V)} (hf : P.funcs[f]? = some fn) (hb : fn.body = some body) (n : Nat) (rs : List ResultVar) (ho : okFn fn n = true) (hn : a.length = n) (hrs : fn.results.toList = rs)
    (he : initE 0 a = env) (h : Wp T (Den P T X) 0 body ⟨env, []⟩ (endQ (finN T rs r))) : Den P T X f a [] r [] :=
  Den.pureN hf hb n rs ho hrs hn (by rw [init_eq, he]; exact h)
theorem Den.pureP {P : Program} {T : Tab} [TOk T P] {X : Call} {f : FuncId} {fn : Func} {body : Code} {a : List V} {r : V} {env : List (Nat × V)} (hf : P.funcs[f]? = some fn) (hb : fn.body = some body) (n : Nat) (rs : List ResultVar) (ho : okFn fn n = true) (hn : a.length = n) (hrs : fn.results.toList = rs)
    (he : initE 0 a = env) (h : Wp T (Den P T X) 0 body ⟨env, []⟩ (endQ (finD T rs r))) : Den P T X f a [] r [] :=
  Den.pure hf hb n rs ho hrs hn (by rw [init_eq, he]; exact h)

attribute [go_sem ↓] put_some put_none thn_normal thn_ret thn_exit blkK_normal blkK_ret blkK_exit endQ_ret endQ_normal endQ_exit opsR_nil opsR_run qR_zero qR_nil qR_run
  evg_tmp evg_const r1_move r1_assign r1_pick r1_alloc r1_box r1_load r1_store r1_nilCheck r1_bin r1_not r1_neg r1_fieldAddr r1_field r1_indexAddr r1_index r1_extract r1_len r1_min r1_max r1_build r1_makeSlice r1_slice r1_makeFunc r1_convert
  rq_move rq_assign rq_pick rq_load rq_nilCheck rq_bin rq_not rq_neg rq_convert rq_makeFunc rq_slice rq_fieldAddr rq_field rq_indexAddr rq_index rq_extract rq_build rq_len rq_max rq_min
  look_consC
attribute [go_sem high] bindP_t bindO_t
attribute [go_sem] bF_agg binR_agg eqneO_some eqsK_eqs optB_some eqL_nil eqL_int eqL_bool eqL_str binR_int binR_str binR_bool binR_nil binR_sl binR_msl bindP_some bindO_some bindA_some bindP_and andF_some bindP_arr bindO_arr bindP_index bindP_slice arrF_cons arrG_cons indexF_msl indexF_cons gd_consZ gd_consS bdsF_hi bdsF_lo bdsF_lh sliceF_msl sliceF_cons strSlF_s
  iF_add iF_sub iF_mul iF_eql iF_neq iF_lss iF_leq iF_gtr iF_geq iF_quo iF_rem sF_add sF_eql sF_neq eF_eql eF_neq bF_int bF_str bF_bool bF_nil bF_sl bF_msl
  pickF nilF loadF storeF alF ldF stF faF fdF iaF ixF exF lenF minF maxF notF negF cvF bnF byF numsL mkAggF bdF bsG bsH bsF msF elT slF apM apF
  newsOk_nil newsOk_cons newsOk_mapT onesD_nil onesD_cons callee_d callee_f
  resG_none resG_some resL_nil resL_cons dsts_nil dsts_cons gval_some
  evL_nil evL_cons evP_nil evP_cons zV_nil zV_cons zVn_zero zVn_succ dV_nil dV_cons dV_app pickV_t pickV_f pickV_b pickV_i
  killE_nil killE_cons killO_nil killO_cons killL_nil killL_cons killVs_nil killVs_cons killV_agg kill_fn' kill_tup kill1_any kill1_ref killOb_var kill_d kill_msl kill_ref kill_any kill_undef kill1_d kill1_msl okill_arr okill_dead
  take_mapE drop_mapE app_mapE app_i app_s sl_i arr_i arr_s set_i set_s rep_i rep_s vc_dV vc_agg vc_ref vc_msl vc_fn dc_val dc_sl dc_agg dc_ptr dc_fn do_int do_bool do_str do_slice do_nilf do_sl do_ptr do_fn vo_d vo_ref vo_msl vo_fn va_agg va_dagg
  mkAgg allD_dV zeroD_eq zD_nil zD_cons ev_aggC finD_eq finR_some finS_some finN_eq finRN_some finSN_some nnV_nil nnV_cons nnL_nil nnL_cons nnD_agg nnD_nil nnD_int nnD_bool nnD_str nnD_sl nnD_ptr nnD_fn nn0_nil nn0_int nn0_bool nn0_str nn0_sl nn0_ptr nn0_fn init_eq initE_nil initE_cons
  ev_tmp ev_func ev_int ev_bool ev_str ev_nil ev_nilFunc quietLen quietOp cond_true cond_false resVs resV mapL_nil mapL_cons leaf_d leaf_msl leaf_ref leaf_agg leaf_fn leaf1_d leaf1_msl leaf1_ref leaf1_agg leaf0_d leaf0_msl
  resOf_one resOf_nil resOf_two vint vd_d vd_ref vd_msl ofCells dOfCells allD sizeIs setRange TK.isBool TK.isSl nilV fill_nil fill_cons fieldAt chunk_zero chunk_succ freeze_nil freeze_cons fz_var fz_arr mod_zero mod_succ se_val setElem sc_d sc_tup sc_val sc_sl sc_agg elems_sl elems_nil elems_msl
  List.length_cons List.length_nil List.length_map List.all_cons List.all_nil List.getElem?_cons_zero List.getElem?_cons_succ List.getElem?_nil List.nil_append List.cons_append List.append_nil List.append_assoc
  List.take_succ_cons List.take_zero List.drop_zero List.drop_succ_cons List.take_nil List.drop_nil List.take_length List.head?_cons List.set_cons_zero List.set_cons_succ List.replicate List.contains_nil List.toList_toArray
  Option.bind_some Option.bind_none Option.map_some Option.map_none Option.getD_some Option.getD_none
  Nat.zero_add Nat.add_zero Nat.sub_zero Nat.sub_self Nat.zero_le Nat.le_refl Nat.lt_add_one Int.le_refl Int.toNat_zero Int.toNat_natCast
  Bool.and_true Bool.true_and Bool.and_false Bool.false_and Bool.or_true Bool.true_or Bool.or_false Bool.false_or Bool.not_true Bool.not_false if_true if_false and_true true_and and_self or_true true_or forall_const true_implies false_implies eq_self imp_self implies_true
end Go.PL
