/- A plain machine, sound for the given model, and contracts of functions over it, part 33: TM3 PlGrow BO1 BO2 AQ AF AG. Nothing is assumed. -/
import Derived.Test.YtfdjgoapdkpbaaaPlBack
import Derived.Test.YtfdjgoapdkpbaaaG15
import Derived.Test.YtfdjgoapdkpbaaaA1
import Derived.Test.YtfdjgoapdkpbaaaA4
import Derived.Test.YtfdjgoapdkpbaaaA7
import Derived.Test.YtfdjgoapdkpbaaaG25
import Derived.Test.YtfdjgoapdkpbaaaG31
import Derived.Test.YtfdjgoapdkpbaaaTM2
set_option linter.unusedSimpArgs false
set_option linter.unusedVariables false
set_option linter.unusedSectionVars false
/- TM3 -/
namespace Go.PL
open Go Go.Proofs
set_option maxRecDepth 10000
set_option maxHeartbeats 4000000
set_option linter.unusedSimpArgs false
set_option linter.unusedVariables false
theorem toInts_n (a : List Int) (ha : a.length ≤ 1048576) : CC 56 [.d (encD a)] [] (.msl 0 0 a.length) [.arr 1 (a.map .i) false] := by
  refine Den.newG (vs := [.msl 0 0 a.length]) Try.func56 rfl 1 0 [.tmp 2] (by kernel_rfl) rfl rfl (by simp only [initE_nil, initE_cons, Nat.reduceAdd]; exact rfl) rfl rfl (by simp) rfl (by first | rfl | simp only [List.all_cons, List.all_nil, tree_bnd, arr_bnd, Bool.and_true]) ?_
  repeat' first | (with_reducible first | refine nx' ?_ | refine n0 ?_ | refine rD ?_ | refine n1 ?_ | refine nilB_i fun b hb => ?_ | refine nP ?_ ?_ | refine nS fun K hK => ?_ | (refine n2 ?_ ?_ <;> intro h <;> first | subst (h : _ = true) | subst (h : _ = false) | skip) | refine And.intro ?_ ?_ | refine nK ‹Imp _ _› ?_) | exact nl | fail
  refine Wp.loopR (fun x : Nat × List Int => ⟨[(0, .d (encD a)), (3, .msl 0 0 x.2.length), (4, .d (.i x.1))], [.arr 1 (x.2.map .i) false]⟩) (fun x => a.length - x.1) (fun x => x.1 ≤ a.length ∧ x.2.length = a.length ∧ x.2.take x.1 = a.take x.1) (0, List.replicate a.length 0) Weak.lo ⟨by simp, by simp, by simp⟩ ?_
  rintro ⟨i, o⟩ ⟨hi, hl, hd⟩ K hK
  simp only at hi hl hd ⊢
  repeat' first | (with_reducible first | refine nx' ?_ | refine n0 ?_ | refine rD ?_ | refine n1 ?_ | refine nilB_i fun b hb => ?_ | refine nP ?_ ?_ | refine nS fun K hK => ?_ | (refine n2 ?_ ?_ <;> intro h <;> first | subst (h : _ = true) | subst (h : _ = false) | skip) | refine And.intro ?_ ?_ | refine nK ‹Imp _ _› ?_) | exact nl | fail
  · exact ⟨(i + 1, o.set i (a.getD i 0)), by simp only; omega, ⟨by simp only; omega, by simp [hl], take_set_succ 0 (by omega) hl hd⟩, Weak.lo⟩
  · have e := take_all hl (by omega) hd
    subst e
    exact finG_of [(2, .msl 0 0 o.length)] [] Weak.lo
theorem toRat_n (r : Rt) (hr : bR r) : CC 49 [.d (encR r)] [] (.agg [.d (.b r.neg), .msl 0 0 r.num.length, .msl 1 0 r.den.length]) [.arr 1 (r.num.map .i) false, .arr 1 (r.den.map .i) false] := by
  obtain ⟨b, x, y⟩ := r
  obtain ⟨h1, h2⟩ := hr
  simp only at h1 h2
  have c1 := toInts_n x h1
  have c2 := toInts_n y h2
  simp only [encR]
  refine Den.newG (vs := [.agg [.d (.b b), .msl 0 0 x.length, .msl 1 0 y.length]]) Try.func49 rfl 1 0 [.cell 2 29] (by kernel_rfl) rfl rfl (by simp only [initE_nil, initE_cons, Nat.reduceAdd]; exact rfl) rfl rfl (by simp) rfl (by first | rfl | simp only [List.all_cons, List.all_nil, tree_bnd, arr_bnd, Bool.and_true]) ?_
  repeat' first | (with_reducible first | refine nx' ?_ | refine n0 ?_ | refine rD ?_ | refine n1 ?_ | refine nilB_i fun b hb => ?_ | refine nPn (c1) ?_ | refine nPn (c2) ?_ | refine nP ?_ ?_ | refine nS fun K hK => ?_ | (refine n2 ?_ ?_ <;> intro h <;> first | subst (h : _ = true) | subst (h : _ = false) | skip) | refine And.intro ?_ ?_ | refine nK ‹Imp _ _› ?_) | exact nl | fail
  exact finG_of [(2, .ref 4 0 0)] _ (Weak.perm [3, 4, 2, 0, 1] rfl rfl Weak.lo)
theorem rep_tree6 {n : Nat} {env : List (Nat × V)} {nF : Nat} {z : D} (hz : (z.cells.all D.fl1) = true) : Weak nF ⟨env, [.arr 6 (List.replicate n z) false]⟩ ⟨env, [.tree 6 ((List.replicate n z).map .d)]⟩ := by
  refine Weak.toTree (s := ⟨env, [.arr 6 (List.replicate n z) false]⟩) 0 rfl ?_
  rw [List.all_eq_true]
  intro x hx
  rw [List.eq_of_mem_replicate hx]; exact hz
theorem rep_tree {n : Nat} {env : List (Nat × V)} {nF : Nat} {z : D} (hz : (z.cells.all D.fl1) = true) : Weak nF ⟨env, [.arr 3 (List.replicate n z) false]⟩ ⟨env, [.tree 3 ((List.replicate n z).map .d)]⟩ := by
  refine Weak.toTree (s := ⟨env, [.arr 3 (List.replicate n z) false]⟩) 0 rfl ?_
  rw [List.all_eq_true]
  intro x hx
  rw [List.eq_of_mem_replicate hx]; exact hz
set_option maxHeartbeats 1000000 in
theorem toRats_t (l : List Rt) (hb : bV l) : CC 48 [.d (.sl (l.map encR))] [] (.msl 0 0 l.length) [.tree 3 ((l.map encR).map .d)] := by
  have hl0 := hb.1
  refine Den.newG (vs := [.msl 0 0 l.length]) Try.func48 rfl 1 0 [.tmp 2] (by kernel_rfl) rfl rfl (by simp only [initE_nil, initE_cons, Nat.reduceAdd]; exact rfl) rfl rfl (by simp) rfl (by first | rfl | simp only [List.all_cons, List.all_nil, tree_bnd, arr_bnd, Bool.and_true]) ?_
  repeat' first | (with_reducible first | refine nx' ?_ | refine n0 ?_ | refine rD ?_ | refine n1 ?_ | refine nilB_i fun b hb => ?_ | refine nP ?_ ?_ | refine nS fun K hK => ?_ | (refine n2 ?_ ?_ <;> intro h <;> first | subst (h : _ = true) | subst (h : _ = false) | skip) | refine And.intro ?_ ?_ | refine nK ‹Imp _ _› ?_) | exact nl | fail
  refine Wp.loopR (fun x : Nat × List Rt => ⟨[(0, .d (.sl (l.map encR))), (3, .msl 0 0 l.length), (4, .d (.i x.1))], [.tree 3 ((x.2.map encR).map .d)]⟩) (fun x => l.length - x.1) (fun x => x.1 ≤ l.length ∧ x.2.length = l.length ∧ x.2.take x.1 = l.take x.1) (0, List.replicate l.length ⟨false, [], []⟩)
    (Weak.trans (b := ⟨[(0, .d (.sl (l.map encR))), (3, .msl 0 0 l.length), (4, .d (.i 0))], [.arr 3 ((List.replicate l.length (⟨false, [], []⟩ : Rt)).map encR) false]⟩) (Weak.rep1 (f := encR) (z := ⟨false, [], []⟩) rfl Weak.lo) (by rw [List.map_replicate]; exact rep_tree rfl)) ⟨by simp, by simp, by simp⟩ ?_
  rintro ⟨i, q⟩ ⟨hi, hl, hd⟩ K hK
  simp only at hi hl hd ⊢
  by_cases h : i < l.length
  · have hbi := hb.get i
    have hr := toRat_n (l.getD i r0) hbi
    generalize hri : l.getD i ⟨false, [], []⟩ = r at *
    have hri' : l.getD i r0 = r := hri
    obtain ⟨hb1, hb2⟩ := hbi
    have hlen : (q.map encR).length = l.length := by simp [hl]
    have hg : q[i]? = some (q.getD i r0) := by rw [List.getD, List.getElem?_eq_getElem (by omega)]; rfl
    have hx : (q.map encR)[i]? = some (encR (q.getD i r0)) := by rw [List.getElem?_map, hg]; rfl
    generalize hds : q.map encR = ds at *
    have hi' : i < ds.length := by omega
    have hgd : gd (l.map encR) i = encR r := by rw [gd, List.getElem?_map, ← hri', List.getD]; rw [List.getElem?_eq_getElem h]; rfl
    refine .weak (Weak.open' (o := 0) (os := [.dead]) (by simp) hx) ?_
    repeat' first | (with_reducible first | refine nx' ?_ (by simp -implicitDefEqProofs (disch := omega) only [go_sem, hri, hri', hgd]; exact rfl) | refine n0 ?_ | refine rD ?_ | refine n1 ?_ | refine nilB_i fun b hb => ?_ | refine nPn (hr) ?_ | refine nP ?_ ?_ | refine nS fun K hK => ?_ | (refine n2 ?_ ?_ <;> intro h <;> first | subst (h : _ = true) | subst (h : _ = false) | (simp only [FX, LX, hri, hri', hgd] at h) | skip) | refine And.intro ?_ ?_ | refine nK ‹Imp _ _› ?_) | exact nl | fail
    have e : (q.set i r).map encR = ds.set i (.agg [.b r.neg, .sl (r.num.map .i), .sl (r.den.map .i)]) := by rw [List.map_set, hds]; rfl
    refine ⟨(i + 1, q.set i r), by simp only; omega, ⟨by simp only; omega, by simp [hl], ?_⟩, ?_⟩
    · rw [← hri]; exact take_set_succ r0 (by omega) hl hd
    · simp only
      rw [e]
      exact Weak.inR0 hi' rfl rfl rfl (by (simp -implicitDefEqProofs (disch := omega) only [go_sem, sub_nil, sub_cons, LX]; try ((repeat' refine And.intro ?_ ?_) <;> first | rfl | trivial | (congr 3; omega) | (congr 1; omega)))) rfl
  · repeat' first | (with_reducible first | refine nx' ?_ | refine n0 ?_ | refine rD ?_ | refine n1 ?_ | refine nilB_i fun b hb => ?_ | refine nP ?_ ?_ | refine nS fun K hK => ?_ | (refine n2 ?_ ?_ <;> intro h <;> first | subst (h : _ = true) | subst (h : _ = false) | skip) | refine And.intro ?_ ?_ | refine nK ‹Imp _ _› ?_) | exact nl | fail
    have e := take_all hl (by omega) hd
    subst e
    exact finG_of [(2, .msl 0 0 q.length)] [] Weak.lo rfl (by simp only [List.map_cons, List.map_nil]; rw [asD_tree rfl])
set_option maxHeartbeats 1000000 in
theorem toRec_t (r : Rc) (hr : bRc r) : CC 35 [.d (encRc r)] [] (.agg [.d (.i r.iter), .d (.i r.count), .msl 0 0 r.x.length, .d (.b r.f.neg), .msl 1 0 r.f.num.length, .msl 2 0 r.f.den.length]) [.tree 3 ((r.x.map encR).map .d), .arr 1 (r.f.num.map .i) false, .arr 1 (r.f.den.map .i) false] := by
  obtain ⟨h1, h2⟩ := hr
  have c1 := toRats_t r.x h1
  have c2 := toRat_n r.f h2
  obtain ⟨a, b, x, g, u, v⟩ := r
  simp only at *
  refine Den.newG (vs := [.agg [.d (.i a), .d (.i b), .msl 0 0 x.length, .d (.b g), .msl 1 0 u.length, .msl 2 0 v.length]]) Try.func35 rfl 1 0 [.cell 2 31] (by kernel_rfl) rfl rfl (by simp only [initE_nil, initE_cons, Nat.reduceAdd]; exact rfl) rfl rfl (by simp) rfl (by first | rfl | simp only [List.all_cons, List.all_nil, tree_bnd, arr_bnd, Bool.and_true]) ?_
  repeat' first | (with_reducible first | refine nx' ?_ | refine n0 ?_ | refine rD ?_ | refine n1 ?_ | refine nilB_i fun b hb => ?_ | refine nPt (c1) ?_ | refine nPn (c2) ?_ | refine nP ?_ ?_ | refine nS fun K hK => ?_ | (refine n2 ?_ ?_ <;> intro h <;> first | subst (h : _ = true) | subst (h : _ = false) | skip) | refine And.intro ?_ ?_ | refine nK ‹Imp _ _› ?_) | exact nl | fail
  exact finG_of [(2, .ref 4 0 0)] [.var [.d (.i a), .d (.i b), .d (.sl (x.map encR)), .d (.b g), .d (encD u), .d (encD v)] false, .var [.d (.i a), .d (.i b), .msl 0 0 x.length, .d (.b g), .msl 1 0 u.length, .msl 2 0 v.length] false, .var [.d (.i a), .d (.i b), .msl 0 0 x.length, .d (.b g), .msl 1 0 u.length, .msl 2 0 v.length] false]
    (Weak.perm [3, 4, 5, 0, 1, 2] rfl rfl (by simp -implicitDefEqProofs (disch := omega) only [go_sem]; exact Weak.lo)) rfl (by simp only [List.map_cons, List.map_nil, List.cons_append, List.nil_append]; rw [asD_rec])
set_option maxHeartbeats 1000000 in
theorem toRecs_t (l : List Rc) (hb : bRcs l) : CC 16 [.d (.sl (l.map encRc))] [] (.msl 0 0 l.length) [.tree 6 ((l.map encRc).map .d)] := by
  have hl0 := hb.1
  refine Den.newG (vs := [.msl 0 0 l.length]) Try.func16 rfl 1 0 [.tmp 2] (by kernel_rfl) rfl rfl (by simp only [initE_nil, initE_cons, Nat.reduceAdd]; exact rfl) rfl rfl (by simp) rfl (by first | rfl | simp only [List.all_cons, List.all_nil, tree_bnd, arr_bnd, Bool.and_true]) ?_
  repeat' first | (with_reducible first | refine nx' ?_ | refine n0 ?_ | refine rD ?_ | refine n1 ?_ | refine nilB_i fun b hb => ?_ | refine nP ?_ ?_ | refine nS fun K hK => ?_ | (refine n2 ?_ ?_ <;> intro h <;> first | subst (h : _ = true) | subst (h : _ = false) | skip) | refine And.intro ?_ ?_ | refine nK ‹Imp _ _› ?_) | exact nl | fail
  refine Wp.loopR (fun x : Nat × List Rc => ⟨[(0, .d (.sl (l.map encRc))), (3, .msl 0 0 l.length), (4, .d (.i x.1))], [.tree 6 ((x.2.map encRc).map .d)]⟩) (fun x => l.length - x.1) (fun x => x.1 ≤ l.length ∧ x.2.length = l.length ∧ x.2.take x.1 = l.take x.1) (0, List.replicate l.length rc0)
    (Weak.trans (b := ⟨[(0, .d (.sl (l.map encRc))), (3, .msl 0 0 l.length), (4, .d (.i 0))], [.arr 6 ((List.replicate l.length (rc0 : Rc)).map encRc) false]⟩) (Weak.rep1 (f := encRc) (z := rc0) rfl Weak.lo) (by rw [List.map_replicate]; exact rep_tree6 rfl)) ⟨by simp, by simp, by simp⟩ ?_
  rintro ⟨i, q⟩ ⟨hi, hl, hd⟩ K hK
  simp only at hi hl hd ⊢
  by_cases h : i < l.length
  · have hbi := hb.2 _ (getD_mem rc0 h)
    have hr := toRec_t (l.getD i rc0) hbi
    generalize hri : l.getD i rc0 = r at *
    have hri' : l.getD i rc0 = r := hri
    obtain ⟨hb0, hb1, hb2⟩ := hbi
    have hlen : (q.map encRc).length = l.length := by simp [hl]
    have hg : q[i]? = some (q.getD i rc0) := by rw [List.getD, List.getElem?_eq_getElem (by omega)]; rfl
    have hx : (q.map encRc)[i]? = some (encRc (q.getD i rc0)) := by rw [List.getElem?_map, hg]; rfl
    generalize hds : q.map encRc = ds at *
    have hi' : i < ds.length := by omega
    have hgd : gd (l.map encRc) i = encRc r := by rw [gd, List.getElem?_map, ← hri', List.getD]; rw [List.getElem?_eq_getElem h]; rfl
    refine .weak (Weak.open' (o := 0) (os := [.dead]) (by simp) hx) ?_
    repeat' first | (with_reducible first | refine nx' ?_ (by simp -implicitDefEqProofs (disch := omega) only [go_sem, hri, hri', hgd]; exact rfl) | refine n0 ?_ | refine rD ?_ | refine n1 ?_ | refine nilB_i fun b hb => ?_ | refine nPt (hr) ?_ | refine nP ?_ ?_ | refine nS fun K hK => ?_ | (refine n2 ?_ ?_ <;> intro h <;> first | subst (h : _ = true) | subst (h : _ = false) | (simp only [FX, LX, hri, hri', hgd] at h) | skip) | refine And.intro ?_ ?_ | refine nK ‹Imp _ _› ?_) | exact nl | fail
    skip
    have e : (q.set i r).map encRc = ds.set i (.agg [.i r.iter, .i r.count, .sl (r.x.map encR), .b r.f.neg, .sl (r.f.num.map .i), .sl (r.f.den.map .i)]) := by rw [List.map_set, hds]
    refine ⟨(i + 1, q.set i r), by simp only; omega, ⟨by simp only; omega, by simp [hl], ?_⟩, ?_⟩
    · rw [← hri]; exact take_set_succ rc0 (by omega) hl hd
    · simp only
      rw [e]
      exact Weak.inC0 hi' (by simp) rfl rfl rfl (by (simp -implicitDefEqProofs (disch := omega) only [go_sem, sub_nil, sub_cons, LX]; try ((repeat' refine And.intro ?_ ?_) <;> first | rfl | trivial | (congr 3; omega) | (congr 1; omega)))) rfl
  · repeat' first | (with_reducible first | refine nx' ?_ | refine n0 ?_ | refine rD ?_ | refine n1 ?_ | refine nilB_i fun b hb => ?_ | refine nP ?_ ?_ | refine nS fun K hK => ?_ | (refine n2 ?_ ?_ <;> intro h <;> first | subst (h : _ = true) | subst (h : _ = false) | skip) | refine And.intro ?_ ?_ | refine nK ‹Imp _ _› ?_) | exact nl | fail
    have e := take_all hl (by omega) hd
    subst e
    exact finG_of [(2, .msl 0 0 q.length)] [] Weak.lo rfl (by simp only [List.map_cons, List.map_nil]; rw [asD_tree rfl])
end Go.PL

/- PlGrow -/
/- Arrays that own what they hold, and grow. -/
namespace Go.PL
open Go
theorem vchunk_zero {agg : Bool} {n : Nat} {cs : List V} : vchunk agg n 0 cs = [] := rfl
theorem vchunk_aggS {n k : Nat} {cs : List V} : vchunk true n (k + 1) cs = .agg (cs.take n) :: vchunk true n k (cs.drop n) := rfl
theorem vchunk_oneS {n k : Nat} {c : V} {cs : List V} : vchunk false n (k + 1) (c :: cs) = c :: vchunk false n k ((c :: cs).drop n) := rfl
theorem vchunk_agg1 {n : Nat} {cs : List V} : vchunk true n 1 cs = [.agg (cs.take n)] := rfl
theorem vchunk_one1 {n : Nat} {c : V} {cs : List V} : vchunk false n 1 (c :: cs) = [c] := rfl
def telG (off len : Nat) : Option Ob → Option (List V)
  | some (.tree _ es) => some ((es.drop off).take len)
  | _ => none
theorem telems_msl {os : List Ob} {o off len : Nat} : telems os (.msl o off len) = telG off len os[o]? := by
  unfold telems telG; rfl
theorem telG_one {sz : Nat} {e : V} : telG 0 1 (some (.tree sz [e])) = some [e] := rfl
theorem killV_app {o : Nat} {a b : List V} : killV o (a ++ b) = killV o a ++ killV o b := by rw [killV_eq, killV_eq, killV_eq, List.map_append]
theorem killV_map {o : Nat} {xs : List D} : killV o (xs.map .d) = xs.map .d := by rw [killV_eq, List.map_map]; rfl
theorem okill_treeV {k sz : Nat} {es : List V} : Ob.kill k (.tree sz es) = .tree sz (killV k es) := by rw [killV_eq]; rfl
theorem kill1_uV {o q n : Nat} (h : q ≠ o) : kill1 o (uV q n) = uV q n := by
  unfold uV; split
  · rfl
  · rw [kill1_msl, beq_false_of_ne h]; rfl
theorem kill_uV {o q n : Nat} (h : q ≠ o) : PL.kill o (uV q n) = uV q n := by
  unfold uV; split
  · rfl
  · rw [kill_msl, beq_false_of_ne h]; rfl
theorem uA_kill {k sz : Nat} {xs : List D} : Ob.kill k (uA sz xs) = uA sz xs := by unfold uA; split <;> rfl
theorem lo_uV {q n : Nat} : V.lo (uV q n) = true := uV_lo
theorem sh_uV {n q k : Nat} : V.shift n (uV q k) = uV (n + q) k := by unfold uV; split <;> rfl
theorem sh1_uV {n q k : Nat} : V.shift1 n (uV q k) = uV (n + q) k := by unfold uV; split <;> rfl
theorem sh2_uV {n q k : Nat} : V.shift2 n (uV q k) = uV (n + q) k := by unfold uV; split <;> rfl
theorem own_uA {xs : List Int} : Ob.own (uA 1 (xs.map .i)) = true := by
  unfold uA; split
  · rfl
  · exact own_arrM
theorem own_uV {q k : Nat} : V.own (uV q k) = true := by unfold uV; split <;> rfl
theorem own1_uV {q k : Nat} : V.own1 (uV q k) = true := by unfold uV; split <;> rfl
theorem own1_msl {o i j : Nat} : V.own1 (.msl o i j) = true := rfl
theorem own1_b {b : Bool} : V.own1 (.d (.b b)) = true := rfl
theorem own1_i {b : Int} : V.own1 (.d (.i b)) = true := rfl
theorem own_aggU {cs : List V} : V.own (.agg cs) = cs.all V.own1 := rfl
theorem own_tupU {cs : List V} : V.own (.tup cs) = cs.all V.own2 := rfl
theorem own2_aggU {cs : List V} : V.own2 (.agg cs) = cs.all V.own1 := rfl
theorem own2_i {b : Int} : V.own2 (.d (.i b)) = true := rfl
theorem own2_b {b : Bool} : V.own2 (.d (.b b)) = true := rfl
attribute [go_sem] sh_uV sh1_uV sh2_uV
theorem allD_msl {a b c : Nat} {r : List V} : allD (.msl a b c :: r) = none := by unfold allD; rfl
theorem allD_none {v : V} {r : List V} (h : allD r = none) : allD (v :: r) = none := by
  unfold allD; rw [h]; cases v.isD <;> rfl
theorem mkAgg_none {cs : List V} (h : allD cs = none) : mkAgg cs = .agg cs := by unfold mkAgg; rw [h]
theorem mkAgg_3m {a b : V} {o i j : Nat} : mkAgg [a, b, .msl o i j] = .agg [a, b, .msl o i j] := mkAgg_none (allD_none (allD_none allD_msl))
theorem mkAgg_6m {a b c d e : V} {o i j : Nat} : mkAgg [a, b, .msl o i j, c, d, e] = .agg [a, b, .msl o i j, c, d, e] := mkAgg_none (allD_none (allD_none allD_msl))
theorem ren_uV {f : Nat → Nat} {q n : Nat} : V.ren f (uV q n) = uV (f q) n := by unfold uV; split <;> rfl
theorem oren_uA {f : Nat → Nat} {n : Nat} {xs : List D} : Ob.ren f (uA n xs) = uA n xs := by unfold uA; split <;> rfl
def renL (f : Nat → Nat) : List V → List V
  | [] => []
  | x :: r => V.ren f x :: renL f r
theorem renL_eq {f : Nat → Nat} : ∀ l, l.map (V.ren f) = renL f l
  | [] => rfl
  | x :: r => by rw [List.map_cons, renL_eq r]; rfl
theorem renL_nil {f : Nat → Nat} : renL f [] = [] := rfl
theorem renL_cons {f : Nat → Nat} {x : V} {r : List V} : renL f (x :: r) = V.ren f x :: renL f r := rfl
theorem oren_varL {f : Nat → Nat} {cs : List V} {b : Bool} : Ob.ren f (.var cs b) = .var (renL f cs) b := by show Ob.var (cs.map _) b = _; rw [renL_eq]
theorem asD_recU {a b : D} {n0 n1 n2 m : Nat} {g : D} {X u v : List D} {tl : List Ob} (h : n1 = u.length) : asD (.tree m (X.map .d) :: uA 1 u :: .arr 1 v false :: tl) (.agg [.d a, .d b, .msl 0 0 n0, .d g, uV 1 n1, .msl 2 0 n2]) = .agg [.d a, .d b, .msl 0 0 n0, .d g, uV 1 n1, .msl 2 0 n2] := by
  subst h
  unfold uV uA
  by_cases h : u.length = 0
  · rw [if_pos h, if_pos h]
    simp only [asD, leaf, leaf1, mapL, leaf0, List.getElem?_cons_zero, List.getElem?_cons_succ, allD_map, List.nil_append, List.append_nil, List.cons_append]
    simp only [List.all_cons, frozen, List.getElem?_cons_zero, Bool.false_and, cond_false]
  · rw [if_neg h, if_neg h]; exact asD_rec
attribute [go_sem] ren_uV oren_uA renL_nil renL_cons oren_varL
attribute [go_sem ↓ high] mkAgg_3m mkAgg_6m
/-- A call that hands out what is its own, where a slice may be empty. -/
theorem nPu {C : Call} {n : FuncId} {vs : List V} {r : V} {N : List Ob} {P Q : Prop} (hc : C n vs [] r N) (h2 : Q) (e : C n vs [] r N → Q → P := by
  intro a b
  first
  | (refine wCt (by simp -implicitDefEqProofs (disch := omega) only [callV, go_sem]; first | done | exact rfl | fail) a (by simp only [List.all_cons, List.all_nil, own_tree, own_arrM, own_dead, own_uA, Bool.and_true]; first | done | fail) rfl ?_; refine Eq.mpr ?_ b; simp -implicitDefEqProofs (disch := omega) only [go_sem]; exact rfl)
  | (refine wCt (by simp -implicitDefEqProofs (disch := omega) only [callV, go_sem]; first | done | exact rfl | fail) a (by simp only [List.all_cons, List.all_nil, own_tree, own_arrM, own_dead, own_uA, Bool.and_true]; first | done | fail) own_uV ?_; refine Eq.mpr ?_ b; simp -implicitDefEqProofs (disch := omega) only [go_sem]; exact rfl)
  | (refine wCt (by simp -implicitDefEqProofs (disch := omega) only [callV, go_sem]; first | done | exact rfl | fail) a (by simp only [List.all_cons, List.all_nil, own_tree, own_arrM, own_dead, own_uA, Bool.and_true]; first | done | fail) (by simp only [own_aggU, own_tupU, own2_aggU, own2_i, own2_b, own1_uV, own1_msl, own1_b, own1_i, List.all_cons, List.all_nil, Bool.and_true]; first | done | fail) ?_; refine Eq.mpr ?_ b; simp -implicitDefEqProofs (disch := omega) only [go_sem]; exact rfl)
  | (refine wCt0 (by simp -implicitDefEqProofs (disch := omega) only [callV, go_sem]; first | done | exact rfl | fail) a (by simp only [List.all_cons, List.all_nil, own_tree, own_arrM, own_dead, own_uA, Bool.and_true]; first | done | fail) rfl ?_; refine Eq.mpr ?_ b; simp -implicitDefEqProofs (disch := omega) only [go_sem]; exact rfl)
  | (refine wCt0 (by simp -implicitDefEqProofs (disch := omega) only [callV, go_sem]; first | done | exact rfl | fail) a (by simp only [List.all_cons, List.all_nil, own_tree, own_arrM, own_dead, own_uA, Bool.and_true]; first | done | fail) own_uV ?_; refine Eq.mpr ?_ b; simp -implicitDefEqProofs (disch := omega) only [go_sem]; exact rfl)
  | (refine wCt0 (by simp -implicitDefEqProofs (disch := omega) only [callV, go_sem]; first | done | exact rfl | fail) a (by simp only [List.all_cons, List.all_nil, own_tree, own_arrM, own_dead, own_uA, Bool.and_true]; first | done | fail) (by simp only [own_aggU, own_tupU, own2_aggU, own2_i, own2_b, own1_uV, own1_msl, own1_b, own1_i, List.all_cons, List.all_nil, Bool.and_true]; first | done | fail) ?_; refine Eq.mpr ?_ b; simp -implicitDefEqProofs (disch := omega) only [go_sem]; exact rfl)
  | fail) : P := e hc h2
attribute [go_sem] btF btG apT apTM vchunk_zero vchunk_agg1 vchunk_one1 telems_msl telG_one vnewsOk_nil vnewsOk_cons killV_app killV_map okill_treeV kill1_uV kill_uV uA_kill
/-- A slice's literal, and an append, of elements that hold slices of their own. -/
theorem nT {P Q : Prop} (h : Q) (e : Q → P := by first | exact r1_appendT | exact r1_buildSliceT | fail) : P := e h
section
variable {nF : Nat} {env env' : List (Nat × V)} {ds : List D} {b : Bool} {u v : List Int}
/-- A new rational at an array's end: it goes into it. -/
theorem Weak.endR {n1 n2 : Nat} {tl : List Ob} (h1 : n1 = u.length) (h2 : n2 = v.length) (he : sub env env') (henv : (env'.all fun p => p.2.bnd 1) = true) :
    Weak 0 ⟨env, .tree 3 (ds.map V.d ++ [V.agg [.d (.b b), uV 1 n1, uV 2 n2]]) :: uA 1 (u.map .i) :: uA 1 (v.map .i) :: tl⟩ ⟨env', [.tree 3 ((ds ++ [D.agg [.b b, .sl (u.map .i), .sl (v.map .i)]]).map .d)]⟩ := by
  have e : ds.map V.d ++ [V.agg [.d (.b b), uV 1 n1, uV 2 n2]] = ((ds ++ [D.nil]).map V.d).set ds.length (.agg [.d (.b b), uV 1 n1, uV 2 n2]) := by
    rw [List.map_append, List.set_append_right _ _ (by simp), List.length_map, Nat.sub_self]; rfl
  have e2 : (ds ++ [D.nil]).set ds.length (.agg [.b b, .sl (u.map .i), .sl (v.map .i)]) = ds ++ [D.agg [.b b, .sl (u.map .i), .sl (v.map .i)]] := by
    rw [List.set_append_right _ _ (Nat.le_refl _), Nat.sub_self]; rfl
  rw [e, ← e2]
  have hlt : 0 < [Ob.dead].length := by simp
  have hi : ds.length < (ds ++ [D.nil]).length := by simp
  have t1 := Weak.foA' (nF := 0) (env := env) (o := 0) (os := [.dead]) (l := uA 1 (u.map .i) :: uA 1 (v.map .i) :: tl) (sz := 3) (ds := ds ++ [D.nil]) (i := ds.length) (cs := [.d (.b b), uV 1 n1, uV 2 n2]) (j := 1) (k := 0) (xs := u) hlt hi rfl h1 rfl
  have t2 := Weak.foA' (nF := 0) (env := env) (o := 0) (os := [.dead]) (l := .dead :: uA 1 (v.map .i) :: tl) (sz := 3) (ds := ds ++ [D.nil]) (i := ds.length) (cs := [.d (.b b), .d (.sl (u.map .i)), uV 2 n2]) (j := 2) (k := 1) (xs := v) hlt hi rfl h2 rfl
  have t3 := Weak.shut' (nF := 0) (env := env) (env' := env') (o := 0) (os := [.dead]) (l := .dead :: .dead :: tl) (i := ds.length) (sz := 3) (ds := ds ++ [D.nil]) (cs := [.b b, .sl (u.map .i), .sl (v.map .i)]) hlt (Nat.zero_le _) rfl he henv
  exact t1.trans (t2.trans t3)
end
end Go.PL

/- BO1 -/
namespace Go.PL
open Go Go.Proofs
set_option maxRecDepth 10000
set_option maxHeartbeats 4000000
set_option linter.unusedSimpArgs false
set_option linter.unusedVariables false
instance (l : List Int) (k : Int) : Con CC 42 [.d (.sl (l.map .i)), .d (.i k)] (l.length ≤ 1048576 ∧ 0 ≤ k ∧ k ≤ 1000000000 ∧ l = mkL k l.length) (.d (.i (k + l.length))) := by
  constructor; intro ⟨hl, h0, h1, he⟩
  refine Den.pureI Try.func42 rfl 2 [.tmp 4] (by kernel_rfl) rfl rfl (by simp only [initE_nil, initE_cons, Nat.reduceAdd]; exact rfl) ?_
  repeat' first | (with_reducible first | refine nx' ?_ | refine n0 ?_ | refine rD ?_ | refine n1 ?_ | refine nilB_i fun b hb => ?_ | refine nP ?_ ?_ | refine nS fun K hK => ?_ | (refine n2 ?_ ?_ <;> intro h <;> first | subst (h : _ = true) | subst (h : _ = false) | skip) | refine And.intro ?_ ?_ | refine nK ‹Imp _ _› ?_) | exact nl | fail
  refine Wp.loopR (fun i : Nat => ⟨[(0, .d (.sl (l.map .i))), (1, .d (.i (k + i))), (5, .d (.i i))], []⟩) (fun i => l.length - i) (fun i => i ≤ l.length) 0 (Weak.low (by simp -implicitDefEqProofs (disch := omega) only [go_sem, sub_nil, sub_cons, LX, Int.natCast_zero, Int.add_zero]; try ((repeat' refine And.intro ?_ ?_) <;> first | rfl | trivial | (congr 3; omega) | (congr 1; omega)))) (by omega) ?_
  rintro i hi K hK
  by_cases h : i < l.length
  · have hg : l.getD i 0 = k + (i : Int) := by rw [he]; exact mkL_get h
    repeat' first | (with_reducible first | refine nx' ?_ (by simp -implicitDefEqProofs (disch := omega) only [go_sem, hg]; exact rfl) | refine n0 ?_ | refine rD ?_ | refine n1 ?_ | refine nilB_i fun b hb => ?_ | refine nP ?_ ?_ | refine nS fun K hK => ?_ | (refine n2 ?_ ?_ <;> intro h <;> first | subst (h : _ = true) | subst (h : _ = false) | (simp only [FX, LX, hg] at h) | skip) | refine And.intro ?_ ?_ | refine nK ‹Imp _ _› ?_) | exact nl | fail
    all_goals first
      | exact ⟨i + 1, by omega, by omega, (Weak.low (by simp -implicitDefEqProofs (disch := omega) only [go_sem, sub_nil, sub_cons, LX, show k + ((i + 1 : Nat) : Int) = k + (i : Int) + 1 by omega]; try ((repeat' refine And.intro ?_ ?_) <;> first | rfl | trivial | (congr 3; omega) | (congr 1; omega))))⟩
      | (exfalso; omega)
      | skip
  · obtain rfl : i = l.length := by omega
    repeat' first | (with_reducible first | refine nx' ?_ | refine n0 ?_ | refine rD ?_ | refine n1 ?_ | refine nilB_i fun b hb => ?_ | refine nP ?_ ?_ | refine nS fun K hK => ?_ | (refine n2 ?_ ?_ <;> intro h <;> first | subst (h : _ = true) | subst (h : _ = false) | skip) | refine And.intro ?_ ?_ | refine nK ‹Imp _ _› ?_) | exact nl | fail
instance (b : Bool) (u v : List Int) (k : Int) : Con CC 29 [.d (.agg [.b b, encD u, encD v]), .d (.i k)] (u.length ≤ 1000000 ∧ v.length ≤ 1000000 ∧ 0 ≤ k ∧ k ≤ 900000000 ∧ u = mkL k u.length ∧ v = mkL (k + u.length) v.length) (.d (.i (k + u.length + v.length))) := by
  constructor; intro ⟨h1, h2, h3, h4, h5, h6⟩
  refine Den.pureI Try.func29 rfl 2 [.tmp 4] (by kernel_rfl) rfl rfl (by simp only [initE_nil, initE_cons, Nat.reduceAdd]; exact rfl) ?_
  repeat' first | (with_reducible first | refine nx' ?_ | refine n0 ?_ | refine rD ?_ | refine n1 ?_ | refine nilB_i fun b hb => ?_ | refine nP ?_ ?_ | refine nS fun K hK => ?_ | (refine n2 ?_ ?_ <;> intro h <;> first | subst (h : _ = true) | subst (h : _ = false) | skip) | refine And.intro ?_ ?_ | refine nK ‹Imp _ _› ?_) | exact nl | fail
  all_goals first | omega | (exfalso; omega) | skip
theorem mkRs_get {k : Int} : ∀ {l : List Rt} {i : Nat}, i < l.length → (mkRs k l).getD i r0 = mkR (k + sumOf cR (l.take i)) (l.getD i r0)
  | r :: l, 0, _ => by simp [mkRs, sumOf]
  | r :: l, i + 1, h => by
    have := mkRs_get (k := k + cR r) (l := l) (i := i) (by simpa using h)
    simp only [mkRs, List.getD_cons_succ, this, List.take_succ_cons, sumOf]
    rw [Int.natCast_add, Int.add_assoc]
theorem cR_mk (k : Int) (r : Rt) : cR (mkR k r) = cR r := by simp [cR, szR, mkR, mkL_len]
theorem mkRs_take {k : Int} : ∀ {l : List Rt} {i : Nat}, sumOf cR ((mkRs k l).take i) = sumOf cR (l.take i)
  | [], i => by simp [mkRs]
  | r :: l, 0 => by simp [mkRs]
  | r :: l, i + 1 => by simp [mkRs, sumOf, cR_mk, mkRs_take (l := l)]
/-- Marks that are there still. -/
instance (l : List Rt) (k : Int) : Con CC 28 [.d (.sl (l.map encR)), .d (.i k)] (bV l ∧ 0 ≤ k ∧ k + sumOf cR l ≤ 900000000 ∧ ∃ m, l = mkRs k m) (.d (.i (k + sumOf cR l))) := by
  constructor; intro ⟨hl, h0, h1, m, hm⟩
  have hl0 := hl.1
  refine Den.pureI Try.func28 rfl 2 [.tmp 4] (by kernel_rfl) rfl rfl (by simp only [initE_nil, initE_cons, Nat.reduceAdd]; exact rfl) ?_
  repeat' first | (with_reducible first | refine nx' ?_ | refine n0 ?_ | refine rD ?_ | refine n1 ?_ | refine nilB_i fun b hb => ?_ | refine nP ?_ ?_ | refine nS fun K hK => ?_ | (refine n2 ?_ ?_ <;> intro h <;> first | subst (h : _ = true) | subst (h : _ = false) | skip) | refine And.intro ?_ ?_ | refine nK ‹Imp _ _› ?_) | exact nl | fail
  refine Wp.loopR (fun i : Nat => ⟨[(0, .d (.sl (l.map encR))), (1, .d (.i (k + sumOf cR (l.take i)))), (5, .d (.i i))], []⟩) (fun i => l.length - i) (fun i => i ≤ l.length) 0 (Weak.low (by simp -implicitDefEqProofs (disch := omega) only [go_sem, sub_nil, sub_cons, LX, List.take_zero, sumOf, Int.natCast_zero, Int.add_zero]; try ((repeat' refine And.intro ?_ ?_) <;> first | rfl | trivial | (congr 3; omega) | (congr 1; omega)))) (by omega) ?_
  rintro i hi K hK
  by_cases h : i < l.length
  · have hs := sumOf_succ (f := cR) r0 h
    have hle := sumOf_le (f := cR) l (i + 1)
    obtain ⟨hq1, hq2⟩ := hl.get i
    have hml : m.length = l.length := by rw [hm, mkRs_len]
    have hg : l.getD i r0 = mkR (k + sumOf cR (l.take i)) (m.getD i r0) := by
      have e := mkRs_get (k := k) (l := m) (i := i) (by omega)
      rw [← hm] at e
      rw [e, hm, mkRs_take]
    have hcr : cR (l.getD i r0) = 1 + (l.getD i r0).num.length + (l.getD i r0).den.length := by simp [cR, szR]; omega
    generalize hr : l.getD i ⟨false, [], []⟩ = r at *
    have hr' : l.getD i r0 = r := hr
    generalize hkk : k + (sumOf cR (l.take i) : Int) = kk at *
    have g1 : r.neg = (kk % 3 == 0) := by rw [hg]; rfl
    have g2 : r.num = mkL (kk + 1) r.num.length := by rw [hg]; simp [mkR, mkL_len]
    have g3 : r.den = mkL (kk + 1 + r.num.length) r.den.length := by rw [hg]; simp [mkR, mkL_len]
    have hk1 : 0 ≤ kk ∧ kk + 1 + r.num.length + r.den.length ≤ 900000000 := by omega
    have c1 : CC 42 [.d (.sl (r.num.map .i)), .d (.i (kk + 1))] [] (.d (.i (kk + 1 + r.num.length))) [] := Con.ok (C := CC) ⟨hq1, by omega, by omega, g2⟩
    have c2 : CC 42 [.d (.sl (r.den.map .i)), .d (.i (kk + 1 + r.num.length))] [] (.d (.i (kk + 1 + r.num.length + r.den.length))) [] := Con.ok (C := CC) ⟨hq2, by omega, by omega, g3⟩
    repeat' first | (with_reducible first | refine nx' ?_ (by simp -implicitDefEqProofs (disch := omega) only [go_sem, hr, hr', g1]; exact rfl) | refine n0 ?_ | refine rD ?_ | refine n1 ?_ | refine nilB_i fun b hb => ?_ | refine nPc (c1) ?_ | refine nPc (c2) ?_ | refine nP ?_ ?_ | refine nS fun K hK => ?_ | (refine n2 ?_ ?_ <;> intro h <;> first | subst (h : _ = true) | subst (h : _ = false) | (simp only [FX, LX, hr, hr', g1] at h) | skip) | refine And.intro ?_ ?_ | refine nK ‹Imp _ _› ?_) | exact nl | fail
    all_goals first
      | exact ⟨i + 1, by omega, by omega, (Weak.low (by simp -implicitDefEqProofs (disch := omega) only [go_sem, sub_nil, sub_cons, LX, show k + ((sumOf cR (l.take (i + 1)) : Nat) : Int) = kk + 1 + r.num.length + r.den.length by omega]; try ((repeat' refine And.intro ?_ ?_) <;> first | rfl | trivial | (congr 3; omega) | (congr 1; omega))))⟩
      | (exfalso; omega)
      | exact absurd rfl ‹_ ≠ _›
      | skip
  · obtain rfl : i = l.length := by omega
    rw [List.take_length]
    repeat' first | (with_reducible first | refine nx' ?_ | refine n0 ?_ | refine rD ?_ | refine n1 ?_ | refine nilB_i fun b hb => ?_ | refine nP ?_ ?_ | refine nS fun K hK => ?_ | (refine n2 ?_ ?_ <;> intro h <;> first | subst (h : _ = true) | subst (h : _ = false) | skip) | refine And.intro ?_ ?_ | refine nK ‹Imp _ _› ?_) | exact nl | fail
instance (a b : Int) (x : List Rt) (g : Bool) (u v : List Int) (k : Int) : Con CC 12 [.d (.agg [.i a, .i b, .sl (x.map encR), .b g, encD u, encD v]), .d (.i k)]
    (bV x ∧ u.length ≤ 1000000 ∧ v.length ≤ 1000000 ∧ 0 ≤ k ∧ k + sumOf cR x + u.length + v.length ≤ 900000000 ∧ (∃ m, x = mkRs k m) ∧ u = mkL (k + sumOf cR x) u.length ∧ v = mkL (k + sumOf cR x + u.length) v.length) (.d (.i (k + sumOf cR x + u.length + v.length))) := by
  constructor; intro ⟨h0, h1, h2, h3, h4, h5, h6, h7⟩
  refine Den.pureI Try.func12 rfl 2 [.tmp 4] (by kernel_rfl) rfl rfl (by simp only [initE_nil, initE_cons, Nat.reduceAdd]; exact rfl) ?_
  repeat' first | (with_reducible first | refine nx' ?_ | refine n0 ?_ | refine rD ?_ | refine n1 ?_ | refine nilB_i fun b hb => ?_ | refine nP ?_ ?_ | refine nS fun K hK => ?_ | (refine n2 ?_ ?_ <;> intro h <;> first | subst (h : _ = true) | subst (h : _ = false) | skip) | refine And.intro ?_ ?_ | refine nK ‹Imp _ _› ?_) | exact nl | fail
  all_goals first | omega | (exfalso; omega) | skip
theorem uV_bndV {q n m : Nat} (h : q < m) : V.bnd m (uV q n) = true := by
  unfold uV; split
  · rfl
  · show Nat.blt q m = true; rw [Nat.blt_eq]; exact h
/-- Marks into a rational of which the parts stand at two places. -/
theorem markRat_u (os : List Ob) (o1 o2 : Nat) (k : Int) (g : Bool) (u v : List Int) (h1 : o1 < os.length) (h2 : o2 < os.length) (h12 : o1 ≠ o2) (hb : os.all (Ob.bnd os.length) = true) (hu : u.length ≤ 1000000) (hv : v.length ≤ 1000000) (hk : 0 ≤ k ∧ k ≤ 900000000) :
    CC 27 [.agg [.d (.b g), uV o1 u.length, uV o2 v.length], .d (.i k)] ((os.set o1 (uA 1 (u.map .i))).set o2 (uA 1 (v.map .i))) (.d (.i (k + u.length + v.length))) ((os.set o1 (uA 1 ((mkL k u.length).map .i))).set o2 (uA 1 ((mkL (k + u.length) v.length).map .i))) := by
  have hbb : ∀ X Y : List D, ((os.set o1 (uA 1 X)).set o2 (uA 1 Y)).all (Ob.bnd os.length) = true := fun X Y => all_set' (all_set' hb uA_bnd) uA_bnd
  have m1 := markInts_u (os.set o2 (uA 1 (v.map .i)) ++ [.var [.d (.b g), uV o1 u.length, uV o2 v.length] false]) o1 u.length k u (by simp; omega) (by
    rw [List.length_append, List.all_append, Bool.and_eq_true, List.length_set]
    refine ⟨all_mono (fun _ => Ob.bnd_mono (by omega)) (all_set' hb uA_bnd), ?_⟩
    simp [Ob.bnd]
    exact ⟨rfl, uV_bndV (by omega), uV_bndV (by omega)⟩) rfl (by omega) (by omega)
  have m2 := markInts_u (os.set o1 (uA 1 ((mkL k u.length).map .i)) ++ [.var [.d (.b g), uV o1 u.length, uV o2 v.length] false]) o2 v.length (k + u.length) v (by simp; omega) (by
    rw [List.length_append, List.all_append, Bool.and_eq_true, List.length_set]
    refine ⟨all_mono (fun _ => Ob.bnd_mono (by omega)) (all_set' hb uA_bnd), ?_⟩
    simp [Ob.bnd]
    exact ⟨rfl, uV_bndV (by omega), uV_bndV (by omega)⟩) rfl (by omega) (by omega)
  rw [List.set_append_left _ _ (by simpa using h1), List.set_append_left _ _ (by simpa using h1), List.set_comm _ _ h12.symm, List.set_comm _ _ h12.symm] at m1
  rw [List.set_append_left _ _ (by simpa using h2), List.set_append_left _ _ (by simpa using h2)] at m2
  refine Den.newG (vs := [.d (.i (k + u.length + v.length))]) Try.func27 rfl 2 os.length [.tmp 4] (by kernel_rfl) rfl rfl (by simp only [initE_nil, initE_cons, Nat.reduceAdd]; exact rfl) rfl (by simp) (by simp) rfl (by rw [List.length_set, List.length_set]; exact hbb _ _) ?_
  have hL : ∀ A B : Ob, ((os.set o1 A).set o2 B).length = os.length := fun A B => by simp
  have hg : ∀ A B X : Ob, ((os.set o1 A).set o2 B ++ [X])[os.length]? = some X := fun A B X => by rw [← hL A B]; exact List.getElem?_concat_length
  repeat' first | (with_reducible first | refine nx' ?_ (by simp -implicitDefEqProofs (disch := omega) only [go_sem, hL, hg]; exact rfl) | refine n0 ?_ | refine rD ?_ | refine n1 ?_ | refine nilB_i fun b hb => ?_ | refine nPm (m1) ?_ | refine nPm (m2) ?_ | refine nP ?_ ?_ | refine nS fun K hK => ?_ | (refine n2 ?_ ?_ <;> intro h <;> first | subst (h : _ = true) | subst (h : _ = false) | (simp only [FX, LX, hL, hg] at h) | skip) | refine And.intro ?_ ?_ | refine nK ‹Imp _ _› ?_) | exact nl | fail
  all_goals exact finG_of [(4, .d (.i (k + u.length + v.length)))] [.var [.d (.b g), uV o1 u.length, uV o2 v.length] false] Weak.lo
end Go.PL

/- BO2 -/
namespace Go.PL
open Go Go.Proofs
set_option maxRecDepth 10000
set_option maxHeartbeats 4000000
set_option linter.unusedSimpArgs false
set_option linter.unusedVariables false
theorem Weak.nl {nF t : Nat} {env : List (Nat × V)} {os : List Ob} {s' : St} (h : look env t = .d (.val (.slice none 0 0))) (hs : Weak nF ⟨(t, .d (.sl [])) :: env, os⟩ s') : Weak nF ⟨env, os⟩ s' := by
  refine .trans (b := ⟨(t, .d (.sl [])) :: env, os⟩) (.le (fun q => ?_) rfl fun i hi => .refl _) hs
  show VLe (look env q) (look ((t, .d (.sl [])) :: env) q)
  rw [look]
  cases hq : Nat.beq t q with
  | false => exact .refl _
  | true =>
    have := Nat.eq_of_beq_eq_true hq
    subst this
    rw [h]
    exact .d .nil
theorem clone_u (a : List Int) (ha : a.length ≤ 1048576) : CC 39 [.d (encD a)] [] (uV 0 a.length) [uA 1 (a.map .i)] := by
  by_cases h : a.length = 0
  · obtain rfl : a = [] := List.eq_nil_of_length_eq_zero h
    refine Den.newG (vs := [.d (.sl [])]) Try.func39 rfl 1 0 [.tmp 2] (by kernel_rfl) rfl rfl (by simp only [initE_nil, initE_cons, Nat.reduceAdd]; exact rfl) rfl rfl (by simp) rfl (by first | rfl | simp only [List.all_cons, List.all_nil, tree_bnd, arr_bnd, Bool.and_true]) ?_
    repeat' first | (with_reducible first | refine nx' ?_ | refine n0 ?_ | refine rD ?_ | refine n1 ?_ | refine nilB_i fun b hb => ?_ | refine nP ?_ ?_ | refine nS fun K hK => ?_ | (refine n2 ?_ ?_ <;> intro h <;> first | subst (h : _ = true) | subst (h : _ = false) | skip) | refine And.intro ?_ ?_ | refine nK ‹Imp _ _› ?_) | exact nl | fail
    · exact finG_of [(2, .d (.sl []))] [] (Weak.nl (t := 2) rfl (Weak.trans Weak.lo .dead))
    · exact finG_of [(2, .d (.sl []))] [] (Weak.thaw1 (o := 0) (t := 2) (off := 0) (len := 0) (sz := 1) (es := []) rfl rfl (Weak.trans (b := ⟨[(2, .d (.sl []))], []⟩) (.drop [.arr 1 [] true] (Nat.le_refl _) (by simp -implicitDefEqProofs (disch := omega) only [go_sem, sub_nil, sub_cons, LX]) rfl rfl rfl) .dead))
  · have := clone_new a ha (by omega)
    rw [uV_pos h, uA_pos (by simpa using h)]
    exact this
theorem rclone_u (r : Rt) (hr : bR r) (h0 : r.den.length ≠ 0) : CC 21 [.d (encR r)] [] (.agg [.d (.b r.neg), uV 0 r.num.length, .msl 1 0 r.den.length]) [uA 1 (r.num.map .i), .arr 1 (r.den.map .i) false] := by
  obtain ⟨b, x, y⟩ := r
  obtain ⟨h1, h2⟩ := hr
  simp only at h1 h2 h0
  have c1 := clone_u x h1
  have c2 := clone_new y h2 (by omega)
  simp only [encR]
  by_cases hx : x.length = 0
  · obtain rfl : x = [] := List.eq_nil_of_length_eq_zero hx
    have c1 : CC 39 [.d (encD [])] [] (.d (.sl (([] : List Int).map .i))) [.dead] := c1
    refine Den.newG (vs := [.agg [.d (.b b), .d (.sl (([] : List Int).map .i)), .msl 1 0 y.length]]) Try.func21 rfl 1 0 [.cell 2 29] (by kernel_rfl) rfl rfl (by simp only [initE_nil, initE_cons, Nat.reduceAdd]; exact rfl) rfl rfl (by simp) rfl rfl ?_
    repeat' first | (with_reducible first | refine nx' ?_ | refine n0 ?_ | refine n1 ?_ | refine nilB_i fun b hb => ?_ | refine nPu (c1) ?_ | refine nPu (c2) ?_ | refine nP ?_ ?_ | refine nS fun K hK => ?_ | (refine n2 ?_ ?_ <;> intro h <;> first | subst (h : _ = true) | subst (h : _ = false) | skip) | refine And.intro ?_ ?_ | refine nK ‹Imp _ _› ?_) | exact nl | fail
    refine Wp.drawSR [4, 7, 8, 9] [false, false, false, false, true, false, false, true, true, true] (.op 4 [0,1,5,6] (.op 7 [0,1] (.op 8 [] (.op 9 [] .done)))) (by decide +kernel) ?_
    repeat' first | (with_reducible first | refine nx' ?_ | refine n0 ?_ | refine rD ?_ | refine n1 ?_ | refine nilB_i fun b hb => ?_ | refine nPu (c1) ?_ | refine nPu (c2) ?_ | refine nP ?_ ?_ | refine nS fun K hK => ?_ | (refine n2 ?_ ?_ <;> intro h <;> first | subst (h : _ = true) | subst (h : _ = false) | skip) | refine And.intro ?_ ?_ | refine nK ‹Imp _ _› ?_) | exact nl | fail
    exact finG_of [(2, .ref 3 0 0)] [.var [.d (.b b), .d (encD []), .d (encD y)] false, .var [.d (.b b), .d (.sl (([] : List Int).map .i)), .msl 1 0 y.length] false] (Weak.perm [2, 3, 0, 1] rfl rfl Weak.lo)
  · rw [uV_pos hx, uA_pos (by simpa using hx)] at c1
    simp only [uV_pos hx, uA_pos (show (x.map D.i).length ≠ 0 by simpa using hx)]
    refine Den.newG (vs := [.agg [.d (.b b), .msl 0 0 x.length, .msl 1 0 y.length]]) Try.func21 rfl 1 0 [.cell 2 29] (by kernel_rfl) rfl rfl (by simp only [initE_nil, initE_cons, Nat.reduceAdd]; exact rfl) rfl rfl (by simp) rfl rfl ?_
    repeat' first | (with_reducible first | refine nx' ?_ | refine n0 ?_ | refine n1 ?_ | refine nilB_i fun b hb => ?_ | refine nPu (c1) ?_ | refine nPu (c2) ?_ | refine nP ?_ ?_ | refine nS fun K hK => ?_ | (refine n2 ?_ ?_ <;> intro h <;> first | subst (h : _ = true) | subst (h : _ = false) | skip) | refine And.intro ?_ ?_ | refine nK ‹Imp _ _› ?_) | exact nl | fail
    refine Wp.drawSR [4, 7, 8, 9] [false, false, false, false, true, false, false, true, true, true] (.op 4 [0,1,5,6] (.op 7 [0,1] (.op 8 [] (.op 9 [] .done)))) (by decide +kernel) ?_
    repeat' first | (with_reducible first | refine nx' ?_ | refine n0 ?_ | refine rD ?_ | refine n1 ?_ | refine nilB_i fun b hb => ?_ | refine nPu (c1) ?_ | refine nPu (c2) ?_ | refine nP ?_ ?_ | refine nS fun K hK => ?_ | (refine n2 ?_ ?_ <;> intro h <;> first | subst (h : _ = true) | subst (h : _ = false) | skip) | refine And.intro ?_ ?_ | refine nK ‹Imp _ _› ?_) | exact nl | fail
    exact finG_of [(2, .ref 3 0 0)] [.var [.d (.b b), .d (encD x), .d (encD y)] false, .var [.d (.b b), .msl 0 0 x.length, .msl 1 0 y.length] false] (Weak.perm [2, 3, 0, 1] rfl rfl Weak.lo)
abbrev alongR (n : Nat) (p : Nat → Rt) : List Rt := (List.range n).map p
theorem alongR_len {n : Nat} {p : Nat → Rt} : (alongR n p).length = n := by simp [alongR]
theorem alongR_snoc {n : Nat} {p : Nat → Rt} : alongR (n + 1) p = alongR n p ++ [p n] := by simp [alongR, List.range_succ]
theorem alongR_get {l : List Rt} : (alongR l.length fun i => l.getD i r0) = l := by
  refine List.ext_getElem (by simp [alongR]) fun i h1 h2 => ?_
  simp [alongR, List.getD, List.getElem?_eq_getElem h2]
theorem vecOf_t (g : FuncId) (cap : List D) (n : Nat) (p : Nat → Rt) (hn : n ≤ 1000) (hp : ∀ i, i < n → CC g (.d (.i i) :: dV cap) [] (.d (encR (p i))) []) (hL : ∀ i, i < n → bR (p i) ∧ (p i).den.length ≠ 0) :
    CC 37 [.d (.i n), .d (.fn (.func g) [] cap)] [] (.msl 0 0 n) [.tree 3 (((alongR n p).map encR).map .d)] := by
  refine Den.newG (vs := [.msl 0 0 n]) Try.func37 rfl 2 0 [.tmp 4] (by kernel_rfl) rfl rfl (by simp only [initE_nil, initE_cons, Nat.reduceAdd]; exact rfl) rfl rfl (by simp) rfl (by first | rfl | simp only [List.all_cons, List.all_nil, tree_bnd, arr_bnd, Bool.and_true]) ?_
  repeat' first | (with_reducible first | refine nx' ?_ | refine n0 ?_ | refine rD ?_ | refine nT ?_ | refine n1 ?_ | refine nilB_i fun b hb => ?_ | refine nP ?_ ?_ | refine nS fun K hK => ?_ | (refine n2 ?_ ?_ <;> intro h <;> first | subst (h : _ = true) | subst (h : _ = false) | skip) | refine And.intro ?_ ?_ | refine nK ‹Imp _ _› ?_) | exact nl | fail
  refine Wp.loopR (fun i : Nat => ⟨[(1, .d (.fn (.func g) [] cap)), (5, .msl 0 0 i), (8, .d (.i n)), (9, .d (.i i))], [.tree 3 (((alongR i p).map encR).map .d)]⟩) (fun i => n - i) (fun i => i ≤ n) 0 Weak.lo (by simp) ?_
  rintro i hi K hK
  by_cases hin : i < n
  · have hpi := hp i hin
    obtain ⟨hb, h0⟩ := hL i hin
    have hc := rclone_u (p i) hb h0
    have hs := alongR_snoc (n := i) (p := p)
    have hln : ((alongR i p).map encR).length = i := by simp [alongR]
    generalize hds : (alongR i p).map encR = ds at *
    repeat' first | (with_reducible first | refine nx' ?_ (by simp -implicitDefEqProofs (disch := omega) only [go_sem, hln]; exact rfl) | refine n0 ?_ | refine rD ?_ | refine nT ?_ | refine n1 ?_ | refine nilB_i fun b hb => ?_ | refine nPc (hpi) ?_ | refine nPu (hc) ?_ | refine nP ?_ ?_ | refine nS fun K hK => ?_ | (refine n2 ?_ ?_ <;> intro h <;> first | subst (h : _ = true) | subst (h : _ = false) | (simp only [FX, LX, hln] at h) | skip) | refine And.intro ?_ ?_ | refine nK ‹Imp _ _› ?_) | exact nl | fail
    refine ⟨i + 1, by omega, by omega, ?_⟩
    have e : (alongR (i + 1) p).map encR = ds ++ [.agg [.b (p i).neg, .sl ((p i).num.map .i), .sl ((p i).den.map .i)]] := by rw [hs, List.map_append, hds]; rfl
    rw [e, ← uV_pos h0, ← uA_pos (sz := 1) (show ((p i).den.map D.i).length ≠ 0 by simpa using h0)]
    exact Weak.endR rfl rfl (by (simp -implicitDefEqProofs (disch := omega) only [go_sem, sub_nil, sub_cons, LX]; try ((repeat' refine And.intro ?_ ?_) <;> first | rfl | trivial | (congr 3; omega) | (congr 1; omega)))) rfl
  · repeat' first | (with_reducible first | refine nx' ?_ | refine n0 ?_ | refine rD ?_ | refine n1 ?_ | refine nilB_i fun b hb => ?_ | refine nP ?_ ?_ | refine nS fun K hK => ?_ | (refine n2 ?_ ?_ <;> intro h <;> first | subst (h : _ = true) | subst (h : _ = false) | skip) | refine And.intro ?_ ?_ | refine nK ‹Imp _ _› ?_) | exact nl | fail
    obtain rfl : i = n := by omega
    exact finG_of [(4, .msl 0 0 i)] [] Weak.lo rfl (by simp only [List.map_cons, List.map_nil]; rw [asD_tree rfl])
end Go.PL

/- AQ -/
/- Rationals as the program has them: sign, numerator, denominator, as naturals; the same functions on both sides. -/
namespace Go.PL
open Go

theorem digs_mul_le (m n : Nat) : (digs (m * n)).length ≤ (digs m).length + (digs n).length := by
  refine digs_len_le ?_
  rw [Nat.pow_add]
  exact Nat.mul_lt_mul'' (digs_lt_pow m) (digs_lt_pow n)
theorem digs_add_le {m n L : Nat} (hm : (digs m).length ≤ L) (hn : (digs n).length ≤ L) : (digs (m + n)).length ≤ L + 1 := by
  refine digs_len_le ?_
  have h1 := Nat.lt_of_lt_of_le (digs_lt_pow m) (Nat.pow_le_pow_right (by omega : 0 < 10000) hm)
  have h2 := Nat.lt_of_lt_of_le (digs_lt_pow n) (Nat.pow_le_pow_right (by omega : 0 < 10000) hn)
  rw [Nat.pow_succ]
  omega

theorem dig_ext : ∀ {a b : List Int}, Dig a → Dig b → a.length = b.length → val a = val b → a = b
  | [], [], _, _, _, _ => rfl
  | x :: r, y :: s, ha, hb, hl, hv => by
    have h1 := ha.head
    have h2 := hb.head
    simp only [val] at hv
    have h3 : x = y := by omega
    have h4 : val r = val s := by omega
    rw [h3, dig_ext ha.tail hb.tail (by simpa using hl) h4]

/-- Limbs whose highest stands for something. -/
theorem digs_of {l : List Int} {x : Nat} (hd : Dig l) (hv : val l = x) (ht : l.length = 0 ∨ 10000 ^ (l.length - 1) ≤ x) : l = digs x := by
  refine dig_ext hd (Dig.digs x) ?_ (by rw [hv, val_digs])
  have h1 := val_lt hd
  rw [hv] at h1
  have h2 : x < 10000 ^ l.length := by
    have : ((10000 ^ l.length : Nat) : Int) = (10000 : Int) ^ l.length := by simp
    omega
  have h3 := digs_len_le h2
  rcases ht with ht | ht
  · omega
  · rcases Nat.lt_or_ge (digs x).length l.length with h4 | h4
    · have h5 := digs_lt_pow x
      have h6 := Nat.pow_le_pow_right (by omega : 0 < 10000) (by omega : (digs x).length ≤ l.length - 1)
      omega
    · omega

structure Q where
  neg : Bool
  n : Nat
  d : Nat
deriving DecidableEq

def encQ (q : Q) : D := .agg [.b q.neg, encD (digs q.n), encD (digs q.d)]
theorem encQ_eq {q : Q} : encQ q = .agg [.b q.neg, encD (digs q.n), encD (digs q.d)] := rfl
theorem Q.eta {q : Q} : Q.mk q.neg q.n q.d = q := rfl

/-- Not longer than some limbs; over a number. -/
def lenQ (L : Nat) (q : Q) : Prop := (digs q.n).length ≤ L ∧ (digs q.d).length ≤ L ∧ 0 < q.d

def mkQ (b : Bool) (m n : Nat) : Q := ⟨b && decide (0 < m / Nat.gcd m n), m / Nat.gcd m n, n / Nat.gcd m n⟩
def negQ (a : Q) : Q := ⟨!a.neg && decide (0 < a.n), a.n, a.d⟩
def addQ (a b : Q) : Q :=
  if a.neg = b.neg then mkQ a.neg (a.n * b.d + b.n * a.d) (a.d * b.d)
  else if b.n * a.d ≤ a.n * b.d then mkQ a.neg (a.n * b.d - b.n * a.d) (a.d * b.d)
  else mkQ b.neg (b.n * a.d - a.n * b.d) (a.d * b.d)
def mulQ (a b : Q) : Q := mkQ (a.neg != b.neg) (a.n * b.n) (a.d * b.d)
def divQ (a b : Q) : Q := mkQ (a.neg != b.neg) (a.n * b.d) (a.d * b.n)
def sgnQ (a : Q) : Int := if a.n = 0 then 0 else if a.neg then -1 else 1

theorem gcd_pos {m n : Nat} (hn : 0 < n) : 0 < Nat.gcd m n := Nat.gcd_pos_of_pos_right m hn
theorem div_gcd_pos {m n : Nat} (hn : 0 < n) : 0 < n / Nat.gcd m n := Nat.div_pos (Nat.le_of_dvd hn (Nat.gcd_dvd_right m n)) (gcd_pos hn)
theorem mkQ_len {L : Nat} {b : Bool} {m n : Nat} (hm : (digs m).length ≤ L) (hn : (digs n).length ≤ L) (h0 : 0 < n) : lenQ L (mkQ b m n) :=
  ⟨Nat.le_trans (digs_len_mono (Nat.div_le_self _ _)) hm, Nat.le_trans (digs_len_mono (Nat.div_le_self _ _)) hn, div_gcd_pos h0⟩
theorem negQ_len {L : Nat} {a : Q} (h : lenQ L a) : lenQ L (negQ a) := h
theorem addQ_len {L : Nat} {a b : Q} (ha : lenQ L a) (hb : lenQ L b) : lenQ (2 * L + 1) (addQ a b) := by
  obtain ⟨a1, a2, a3⟩ := ha
  obtain ⟨b1, b2, b3⟩ := hb
  have h1 := digs_mul_le a.n b.d
  have h2 := digs_mul_le b.n a.d
  have h3 := digs_mul_le a.d b.d
  have h4 := Nat.mul_pos a3 b3
  have h5 := digs_add_le (L := 2 * L) (m := a.n * b.d) (n := b.n * a.d) (by omega) (by omega)
  have h6 := digs_len_mono (Nat.sub_le (a.n * b.d) (b.n * a.d))
  have h7 := digs_len_mono (Nat.sub_le (b.n * a.d) (a.n * b.d))
  unfold addQ
  split
  · exact mkQ_len (by omega) (by omega) h4
  · split
    · exact mkQ_len (by omega) (by omega) h4
    · exact mkQ_len (by omega) (by omega) h4
theorem mulQ_len {L : Nat} {a b : Q} (ha : lenQ L a) (hb : lenQ L b) : lenQ (2 * L) (mulQ a b) := by
  obtain ⟨a1, a2, a3⟩ := ha
  obtain ⟨b1, b2, b3⟩ := hb
  have h1 := digs_mul_le a.n b.n
  have h3 := digs_mul_le a.d b.d
  exact mkQ_len (by omega) (by omega) (Nat.mul_pos a3 b3)
theorem divQ_len {L : Nat} {a b : Q} (ha : lenQ L a) (hb : lenQ L b) (h0 : 0 < b.n) : lenQ (2 * L) (divQ a b) := by
  obtain ⟨a1, a2, a3⟩ := ha
  obtain ⟨b1, b2, b3⟩ := hb
  have h1 := digs_mul_le a.n b.d
  have h3 := digs_mul_le a.d b.n
  exact mkQ_len (by omega) (by omega) (Nat.mul_pos a3 h0)

/-- The number with its sign. -/
def sg (b : Bool) (m : Nat) : Int := if b then -(m : Int) else m

theorem div_gcd_zero {m n : Nat} (_hn : 0 < n) : m / Nat.gcd m n = 0 ↔ m = 0 := by
  constructor
  · intro h
    have h1 := Nat.div_mul_cancel (Nat.gcd_dvd_left m n)
    rw [h] at h1
    omega
  · rintro rfl; simp
theorem sgnQ_mk {b : Bool} {m n : Nat} (hn : 0 < n) : sgnQ (mkQ b m n) = Int.sign (sg b m) := by
  unfold sgnQ mkQ sg
  simp only [div_gcd_zero hn]
  rcases Nat.eq_zero_or_pos m with h | h
  · subst h; cases b <;> simp
  · have h2 : 0 < m / Nat.gcd m n := by
      rcases Nat.eq_zero_or_pos (m / Nat.gcd m n) with h3 | h3
      · rw [div_gcd_zero hn] at h3; omega
      · exact h3
    rw [if_neg (by omega)]
    cases b
    · simp [Int.sign_eq_one_of_pos (show (0 : Int) < m by omega)]
    · simp [h2, Int.sign_eq_one_of_pos (show (0 : Int) < m by omega)]

/-- The sign of a difference. -/
def cmpQ (a b : Q) : Int := Int.sign (sg a.neg (a.n * b.d) - sg b.neg (b.n * a.d))
theorem sg_neg {b : Q} {k : Nat} : sg (negQ b).neg (b.n * k) = - sg b.neg (b.n * k) := by
  unfold sg negQ
  rcases Nat.eq_zero_or_pos b.n with h | h
  · rw [h]; cases b.neg <;> simp
  · cases b.neg <;> simp [h]
theorem cmpQ_sub {a b : Q} (ha : 0 < a.d) (hb : 0 < b.d) : sgnQ (addQ a (negQ b)) = cmpQ a b := by
  have h0 := Nat.mul_pos ha hb
  have e : sg a.neg (a.n * b.d) - sg b.neg (b.n * a.d) = sg a.neg (a.n * b.d) + sg (negQ b).neg (b.n * a.d) := by rw [sg_neg]; omega
  unfold cmpQ
  rw [e]
  unfold addQ
  show sgnQ (if a.neg = (negQ b).neg then mkQ a.neg (a.n * b.d + b.n * a.d) (a.d * b.d) else if b.n * a.d ≤ a.n * b.d then mkQ a.neg (a.n * b.d - b.n * a.d) (a.d * b.d) else mkQ (negQ b).neg (b.n * a.d - a.n * b.d) (a.d * b.d)) = _
  generalize (negQ b).neg = c
  generalize a.n * b.d = p
  generalize b.n * a.d = q
  split
  · rename_i h
    rw [sgnQ_mk h0, h]
    congr 1
    unfold sg
    cases c <;> simp <;> omega
  · rename_i h
    split
    · rw [sgnQ_mk h0]
      congr 1
      unfold sg
      revert h
      cases a.neg <;> cases c <;> simp <;> omega
    · rw [sgnQ_mk h0]
      congr 1
      unfold sg
      revert h
      cases a.neg <;> cases c <;> simp <;> omega

/-- How the program compares: by signs first. -/
def cmpI (a b : Q) : Int := if sgnQ a ≠ sgnQ b then sgnQ a - sgnQ b else if a.neg then -(cmpN (a.n * b.d) (b.n * a.d)) else cmpN (a.n * b.d) (b.n * a.d)
theorem sign_if (x : Int) : Int.sign x = if 0 < x then 1 else if x = 0 then 0 else -1 := by
  rcases Int.lt_trichotomy x 0 with h | h | h
  · rw [Int.sign_eq_neg_one_of_neg h, if_neg (by omega), if_neg (by omega)]
  · subst h; rfl
  · rw [Int.sign_eq_one_of_pos h, if_pos h]
theorem cmpI_sign {a b : Q} (ha : 0 < a.d) (hb : 0 < b.d) : Int.sign (cmpI a b) = cmpQ a b := by
  have hp : a.n = 0 ↔ a.n * b.d = 0 := by rw [Nat.mul_eq_zero]; omega
  have hq : b.n = 0 ↔ b.n * a.d = 0 := by rw [Nat.mul_eq_zero]; omega
  unfold cmpI cmpQ sgnQ sg cmpN
  rw [sign_if, sign_if]
  generalize a.n * b.d = p at *
  generalize b.n * a.d = q at *
  simp only [hp, hq]
  cases a.neg <;> cases b.neg <;> simp only [Bool.false_eq_true, if_false, if_true] <;> (repeat' split) <;> omega
theorem cmpI_nonneg {a b : Q} (ha : 0 < a.d) (hb : 0 < b.d) : 0 ≤ cmpI a b ↔ 0 ≤ cmpQ a b := by
  rw [← cmpI_sign ha hb, sign_if]
  repeat' split
  all_goals omega
theorem cmpI_bnd (a b : Q) : -2 ≤ cmpI a b ∧ cmpI a b ≤ 2 := by
  unfold cmpI sgnQ cmpN
  repeat' split
  all_goals omega
attribute [go_sem] encQ_eq Q.eta
end Go.PL

/- AF -/
namespace Go.PL
open Go Go.Proofs
set_option maxRecDepth 10000
set_option maxHeartbeats 4000000
set_option linter.unusedSimpArgs false
set_option linter.unusedVariables false
theorem digs_len_pos' {n : Nat} : 0 < ((digs n).length : Int) ↔ 0 < n := by
  have := digs_len0 (n := n); omega
theorem add_step {a b l : List Int} {i : Nat} {c s : Int} (hl : l.length = i) (hs : s = c + a.getD i 0 + b.getD i 0) (hv : val l + 10000 ^ i * c = val (a.take i) + val (b.take i)) :
    val (l ++ [s % 10000]) + 10000 ^ (i + 1) * (s / 10000) = val (a.take (i + 1)) + val (b.take (i + 1)) := by
  rw [val_take, val_take, val_app, hl, Int.pow_succ]
  have h : s = 10000 * (s / 10000) + s % 10000 := (Int.mul_ediv_add_emod s 10000).symm
  generalize s / 10000 = q at *
  generalize s % 10000 = r at *
  generalize (10000 : Int) ^ i = p at *
  simp only [val]
  grind
/-- What a round of an addition keeps. -/
def addI (a b : List Int) (t : Nat) (i : Nat) (c : Int) (l : List Int) : Prop :=
  l.length = i ∧ Dig l ∧ 0 ≤ c ∧ c ≤ 1 ∧ val l + 10000 ^ i * c = val (a.take i) + val (b.take i) ∧ (i = 0 ∨ 10000 ^ (i - 1) ≤ t) ∧ i ≤ 4096
theorem pow_cast (i : Nat) : ((10000 ^ i : Nat) : Int) = (10000 : Int) ^ i := by simp
theorem addI_step {a b l : List Int} {m n i : Nat} {c s : Int} (ha : Dig a) (hb : Dig b) (hva : val a = m) (hvb : val b = n) (hla : a.length < 4096) (hlb : b.length < 4096) (hga : ∀ {L : Nat}, L < a.length → 10000 ^ L ≤ m) (hgb : ∀ {L : Nat}, L < b.length → 10000 ^ L ≤ n)
    (h : addI a b (m + n) i c l) (hs : s = c + a.getD i 0 + b.getD i 0) (hc : i < a.length ∨ i < b.length ∨ 0 < c) : addI a b (m + n) (i + 1) (s / 10000) (l ++ [s % 10000]) := by
  obtain ⟨h1, h2, h3, h4, h5, h6, h7⟩ := h
  have ga := ha.get i
  have gb := hb.get i
  have key : 10000 ^ i ≤ m + n := by
    by_cases e1 : i < a.length
    · have := hga e1; omega
    · by_cases e2 : i < b.length
      · have := hgb e2; omega
      · have e3 : c = 1 := by omega
        rw [e3, Int.mul_one, List.take_of_length_le (by omega), List.take_of_length_le (by omega), hva, hvb, ← pow_cast] at h5
        have := val_nonneg h2
        omega
  have hi : i < 4096 := by
    have e1 := val_lt ha
    have e2 := val_lt hb
    rw [hva, ← pow_cast] at e1
    rw [hvb, ← pow_cast] at e2
    obtain ⟨M, hM⟩ : ∃ M, M = 4095 := ⟨_, rfl⟩
    have e3 := Nat.pow_le_pow_right (by omega : 0 < 10000) (by omega : a.length ≤ M)
    have e4 := Nat.pow_le_pow_right (by omega : 0 < 10000) (by omega : b.length ≤ M)
    rcases Nat.lt_or_ge i 4096 with q | q
    · exact q
    · have e5 := Nat.pow_le_pow_right (by omega : 0 < 10000) (show M + 1 ≤ i by omega)
      rw [Nat.pow_succ] at e5
      generalize 10000 ^ M = z at *
      omega
  exact ⟨by simp [h1], h2.app (.cons (by omega) (by omega) .nil), by omega, by omega, add_step h1 hs h5, .inr key, hi⟩
theorem addI_end {a b l : List Int} {m n i : Nat} {c : Int} (hva : val a = m) (hvb : val b = n) (h : addI a b (m + n) i c l) (h1 : a.length ≤ i) (h2 : b.length ≤ i) (h3 : c ≤ 0) : l = digs (m + n) := by
  obtain ⟨k1, k2, k3, k4, k5, k6, k7⟩ := h
  have e : c = 0 := by omega
  rw [e, Int.mul_zero, Int.add_zero, List.take_of_length_le h1, List.take_of_length_le h2, hva, hvb] at k5
  refine digs_of k2 (by rw [k5]; omega) ?_
  rw [k1]; exact k6
theorem addI_zero {a b : List Int} {t : Nat} : addI a b t 0 0 [] := ⟨rfl, Dig.nil, by simp, by simp, by simp [val], .inl rfl, by simp⟩
abbrev dQ (b : Bool) (m n : Nat) : D := .agg [.b b, encD (digs m), encD (digs n)]
theorem addQ_1 {b c : Bool} {m n u v : Nat} (h : b = c) : addQ ⟨b, m, n⟩ ⟨c, u, v⟩ = mkQ b (m * v + u * n) (n * v) := if_pos h
theorem addQ_2 {b c : Bool} {m n u v : Nat} (h : b ≠ c) (h2 : u * n ≤ m * v) : addQ ⟨b, m, n⟩ ⟨c, u, v⟩ = mkQ b (m * v - u * n) (n * v) := by unfold addQ; rw [if_neg h, if_pos h2]
theorem addQ_3 {b c : Bool} {m n u v : Nat} (h : b ≠ c) (h2 : m * v < u * n) : addQ ⟨b, m, n⟩ ⟨c, u, v⟩ = mkQ c (u * n - m * v) (n * v) := by unfold addQ; rw [if_neg h, if_neg (by simp only; omega)]
end Go.PL

/- AG -/
namespace Go.PL
open Go Go.Proofs
set_option maxRecDepth 10000
set_option maxHeartbeats 4000000
set_option linter.unusedSimpArgs false
set_option linter.unusedVariables false
theorem sgnQ_bnd (a : Q) : -1 ≤ sgnQ a ∧ sgnQ a ≤ 1 := by unfold sgnQ; (repeat' split) <;> omega
theorem cmpN_bnd (m n : Nat) : -1 ≤ cmpN m n ∧ cmpN m n ≤ 1 := by unfold cmpN; (repeat' split) <;> omega
end Go.PL
