/- A plain machine, sound for the given model, and contracts of functions over it, part 30: TM2 TM3 AKR PlStr AO AO2 PlDec PlSpl SR0 TS AKJ. Nothing is assumed. -/
import Derived.Test.YtapgbbaefieibacGreatDoorPlText
import Derived.Test.YtapgbbaefieibacGreatDoorPlVal
import Derived.Test.YtapgbbaefieibacGreatDoorG16
import Derived.Test.YtapgbbaefieibacGreatDoorG21
import Derived.Test.YtapgbbaefieibacGreatDoorAB
import Derived.Test.YtapgbbaefieibacGreatDoorAD
import Derived.Lib.ItoaMem
import Derived.Laws.Strings
import Derived.Lib.Join
import Derived.Lib.SplitLaws
set_option linter.unusedSimpArgs false
set_option linter.unusedVariables false
set_option linter.unusedSectionVars false
/- TM2 -/
namespace Go.PL
open Go Go.Proofs
set_option maxRecDepth 10000
set_option maxHeartbeats 4000000
set_option linter.unusedSimpArgs false
set_option linter.unusedVariables false
theorem markRNil_c (os : List Ob) (k : Int) (hb : os.all (Ob.bnd os.length) = true) (hk : 0 ≤ k ∧ k ≤ 1000000000) :
    CC 27 [.d (.sl []), .d (.i k)] os (.d (.i k)) os := by
  refine Den.newG (vs := [.d (.i k)]) Tryz.func27 rfl 2 os.length [.tmp 4] (by kernel_rfl) rfl rfl (by simp only [initE_nil, initE_cons, Nat.reduceAdd]; exact rfl) rfl rfl (Nat.le_refl _) rfl hb ?_
  repeat' first | (with_reducible first | refine nx' ?_ | refine n0 ?_ | refine rD ?_ | refine n1 ?_ | refine nilB_i fun b hb => ?_ | refine nP ?_ ?_ | refine nS fun K hK => ?_ | (refine n2 ?_ ?_ <;> intro h <;> first | subst (h : _ = true) | subst (h : _ = false) | skip) | refine And.intro ?_ ?_ | refine nK ‹Imp _ _› ?_) | exact nl | fail
  refine Wp.loopR (fun i : Nat => ⟨[(0, .d (.sl [])), (1, .d (.i k)), (5, .d (.i 0))], os⟩) (fun i => i) (fun i => True) 0 Weak.lo trivial ?_
  rintro i hi K hK
  repeat' first | (with_reducible first | refine nx' ?_ | refine n0 ?_ | refine rD ?_ | refine n1 ?_ | refine nilB_i fun b hb => ?_ | refine nP ?_ ?_ | refine nS fun K hK => ?_ | (refine n2 ?_ ?_ <;> intro h <;> first | subst (h : _ = true) | subst (h : _ = false) | skip) | refine And.intro ?_ ?_ | refine nK ‹Imp _ _› ?_) | exact nl | fail
  exact finG_of [(4, .d (.i k))] [] (by rw [List.append_nil]; exact Weak.lo)
theorem markRats_u (os : List Ob) (o n : Nat) (k : Int) (l : List Rt) (ho : o < os.length) (hb : os.all (Ob.bnd os.length) = true) (hn : n = l.length) (hl : bV l) (hk : 0 ≤ k ∧ k + sumOf cR l ≤ 1000000000) :
    CC 27 [uV o n, .d (.i k)] (os.set o (uT 3 (l.map encR))) (.d (.i (k + sumOf cR l))) (os.set o (uT 3 ((mkRs k l).map encR))) := by
  subst hn
  by_cases h0 : l.length = 0
  · have e : l = [] := List.eq_nil_of_length_eq_zero h0
    subst e
    have := markRNil_c (os.set o .dead) k (by rw [List.length_set]; exact all_set' hb rfl) (by simp [sumOf] at hk; omega)
    simpa [uV, uT, mkRs, sumOf] using this
  · have := markRats_c os o l.length k l ho hb rfl hl hk
    rw [uV_pos h0, uT_pos (by simpa using h0), uT_pos (by simpa [mkRs_len] using h0)]
    exact this
/-- How many marks a record takes in a list, and what it is then. -/
def mkC (k : Int) (r : Rc) : Rc := ⟨k, k + 1, mkRs (k + 2) r.x, ⟨(k + 2 + sumOf cR r.x) % 3 == 0, mkL (k + 2 + sumOf cR r.x + 1) r.f.num.length, mkL (k + 2 + sumOf cR r.x + 1 + r.f.num.length) r.f.den.length⟩⟩
def cC (r : Rc) : Nat := 3 + sumOf cR r.x + szR r.f
def mkCs : Int → List Rc → List Rc
  | _, [] => []
  | k, r :: l => mkC k r :: mkCs (k + cC r) l
theorem mkCs_len : ∀ (k : Int) (l : List Rc), (mkCs k l).length = l.length
  | _, [] => rfl
  | k, r :: l => by simp [mkCs, mkCs_len]
theorem mkCs_app : ∀ (k : Int) (a b : List Rc), mkCs k (a ++ b) = mkCs k a ++ mkCs (k + sumOf cC a) b
  | k, [], b => by simp [mkCs, sumOf]
  | k, r :: a, b => by simp [mkCs, mkCs_app, sumOf, Int.add_assoc]
/-- A list of which the first ones are marked. -/
def mkPreC (k : Int) (l : List Rc) (i : Nat) : List Rc := mkCs k (l.take i) ++ l.drop i
theorem mkPreC_len {k : Int} {l : List Rc} {i : Nat} : (mkPreC k l i).length = l.length := by simp [mkPreC, mkCs_len]; omega
theorem mkPreC_get {k : Int} {l : List Rc} {i : Nat} (h : i < l.length) : (mkPreC k l i)[i]? = some (l.getD i rc0) := by
  rw [mkPreC, List.getElem?_append_right (by simp [mkCs_len]; omega), mkCs_len]
  simp [List.getElem?_drop, List.getD, h, Nat.min_eq_left (Nat.le_of_lt h)]
theorem mkPreC_set {k : Int} {l : List Rc} {i : Nat} (h : i < l.length) : (mkPreC k l i).set i (mkC (k + sumOf cC (l.take i)) (l.getD i rc0)) = mkPreC k l (i + 1) := by
  have hl : (mkCs k (l.take i)).length = i := by simp [mkCs_len]; omega
  rw [mkPreC, List.set_append_right _ _ (by omega), hl, Nat.sub_self, List.drop_eq_getElem_cons h, List.set_cons_zero, mkPreC, take_succD rc0 h, mkCs_app]
  simp [mkCs]
theorem mkPreC_zero {k : Int} {l : List Rc} : mkPreC k l 0 = l := by simp [mkPreC, mkCs]
theorem mkPreC_all {k : Int} {l : List Rc} : mkPreC k l l.length = mkCs k l := by simp [mkPreC]
theorem encR_cells {l : List Rt} : ∀ z ∈ l.map encR, z.cells.length = 3 := by intro z hz; obtain ⟨r, _, rfl⟩ := List.mem_map.1 hz; rfl
end Go.PL

/- TM3 -/
namespace Go.PL
open Go Go.Proofs
set_option maxRecDepth 10000
set_option maxHeartbeats 4000000
set_option linter.unusedSimpArgs false
set_option linter.unusedVariables false
theorem toInts_n (a : List Int) (ha : a.length ≤ 1048576) : CC 46 [.d (encD a)] [] (.msl 0 0 a.length) [.arr 1 (a.map .i) false] := by
  refine Den.newG (vs := [.msl 0 0 a.length]) Tryz.func46 rfl 1 0 [.tmp 2] (by kernel_rfl) rfl rfl (by simp only [initE_nil, initE_cons, Nat.reduceAdd]; exact rfl) rfl rfl (by simp) rfl (by first | rfl | simp only [List.all_cons, List.all_nil, tree_bnd, arr_bnd, Bool.and_true]) ?_
  repeat' first | (with_reducible first | refine nx' ?_ | refine n0 ?_ | refine rD ?_ | refine n1 ?_ | refine nilB_i fun b hb => ?_ | refine nP ?_ ?_ | refine nS fun K hK => ?_ | (refine n2 ?_ ?_ <;> intro h <;> first | subst (h : _ = true) | subst (h : _ = false) | skip) | refine And.intro ?_ ?_ | refine nK ‹Imp _ _› ?_) | exact nl | fail
  refine Wp.loopR (fun x : Nat × List Int => ⟨[(0, .d (encD a)), (3, .msl 0 0 x.2.length), (4, .d (.i x.1))], [.arr 1 (x.2.map .i) false]⟩) (fun x => a.length - x.1) (fun x => x.1 ≤ a.length ∧ x.2.length = a.length ∧ x.2.take x.1 = a.take x.1) (0, List.replicate a.length 0) Weak.lo ⟨by simp, by simp, by simp⟩ ?_
  rintro ⟨i, o⟩ ⟨hi, hl, hd⟩ K hK
  simp only at hi hl hd ⊢
  repeat' first | (with_reducible first | refine nx' ?_ | refine n0 ?_ | refine rD ?_ | refine n1 ?_ | refine nilB_i fun b hb => ?_ | refine nP ?_ ?_ | refine nS fun K hK => ?_ | (refine n2 ?_ ?_ <;> intro h <;> first | subst (h : _ = true) | subst (h : _ = false) | skip) | refine And.intro ?_ ?_ | refine nK ‹Imp _ _› ?_) | exact nl | fail
  · exact ⟨(i + 1, o.set i (a.getD i 0)), by simp only; omega, ⟨by simp only; omega, by simp [hl], take_set_succ 0 (by omega) hl hd⟩, Weak.lo⟩
  · have e := take_all hl (by omega) hd
    subst e
    exact finG_of [(2, .msl 0 0 o.length)] [] Weak.lo
theorem toRat_n (r : Rt) (hr : bR r) : CC 20 [.d (encR r)] [] (.agg [.d (.b r.neg), .msl 0 0 r.num.length, .msl 1 0 r.den.length]) [.arr 1 (r.num.map .i) false, .arr 1 (r.den.map .i) false] := by
  obtain ⟨b, x, y⟩ := r
  obtain ⟨h1, h2⟩ := hr
  simp only at h1 h2
  have c1 := toInts_n x h1
  have c2 := toInts_n y h2
  simp only [encR]
  refine Den.newG (vs := [.agg [.d (.b b), .msl 0 0 x.length, .msl 1 0 y.length]]) Tryz.func20 rfl 1 0 [.cell 2 39] (by kernel_rfl) rfl rfl (by simp only [initE_nil, initE_cons, Nat.reduceAdd]; exact rfl) rfl rfl (by simp) rfl (by first | rfl | simp only [List.all_cons, List.all_nil, tree_bnd, arr_bnd, Bool.and_true]) ?_
  repeat' first | (with_reducible first | refine nx' ?_ | refine n0 ?_ | refine rD ?_ | refine n1 ?_ | refine nilB_i fun b hb => ?_ | refine nPn (c1) ?_ | refine nPn (c2) ?_ | refine nP ?_ ?_ | refine nS fun K hK => ?_ | (refine n2 ?_ ?_ <;> intro h <;> first | subst (h : _ = true) | subst (h : _ = false) | skip) | refine And.intro ?_ ?_ | refine nK ‹Imp _ _› ?_) | exact nl | fail
  exact finG_of [(2, .ref 4 0 0)] _ (Weak.perm [3, 4, 2, 0, 1] rfl rfl Weak.lo)
theorem rep_tree6 {n : Nat} {env : List (Nat × V)} {nF : Nat} {z : D} (hz : (z.cells.all D.fl1) = true) : Weak nF ⟨env, [.arr 6 (List.replicate n z) false]⟩ ⟨env, [.tree 6 ((List.replicate n z).map .d)]⟩ := by
  refine Weak.toTree (s := ⟨env, [.arr 6 (List.replicate n z) false]⟩) 0 rfl ?_
  rw [List.all_eq_true]
  intro x hx
  rw [List.eq_of_mem_replicate hx]; exact hz
theorem rep_tree {n : Nat} {env : List (Nat × V)} {nF : Nat} {z : D} (hz : (z.cells.all D.fl1) = true) : Weak nF ⟨env, [.arr 3 (List.replicate n z) false]⟩ ⟨env, [.tree 3 ((List.replicate n z).map .d)]⟩ := by
  refine Weak.toTree (s := ⟨env, [.arr 3 (List.replicate n z) false]⟩) 0 rfl ?_
  rw [List.all_eq_true]
  intro x hx
  rw [List.eq_of_mem_replicate hx]; exact hz
set_option maxHeartbeats 1000000 in
theorem toRats_t (l : List Rt) (hb : bV l) : CC 19 [.d (.sl (l.map encR))] [] (.msl 0 0 l.length) [.tree 3 ((l.map encR).map .d)] := by
  have hl0 := hb.1
  refine Den.newG (vs := [.msl 0 0 l.length]) Tryz.func19 rfl 1 0 [.tmp 2] (by kernel_rfl) rfl rfl (by simp only [initE_nil, initE_cons, Nat.reduceAdd]; exact rfl) rfl rfl (by simp) rfl (by first | rfl | simp only [List.all_cons, List.all_nil, tree_bnd, arr_bnd, Bool.and_true]) ?_
  repeat' first | (with_reducible first | refine nx' ?_ | refine n0 ?_ | refine rD ?_ | refine n1 ?_ | refine nilB_i fun b hb => ?_ | refine nP ?_ ?_ | refine nS fun K hK => ?_ | (refine n2 ?_ ?_ <;> intro h <;> first | subst (h : _ = true) | subst (h : _ = false) | skip) | refine And.intro ?_ ?_ | refine nK ‹Imp _ _› ?_) | exact nl | fail
  refine Wp.loopR (fun x : Nat × List Rt => ⟨[(0, .d (.sl (l.map encR))), (3, .msl 0 0 l.length), (4, .d (.i x.1))], [.tree 3 ((x.2.map encR).map .d)]⟩) (fun x => l.length - x.1) (fun x => x.1 ≤ l.length ∧ x.2.length = l.length ∧ x.2.take x.1 = l.take x.1) (0, List.replicate l.length ⟨false, [], []⟩)
    (Weak.trans (b := ⟨[(0, .d (.sl (l.map encR))), (3, .msl 0 0 l.length), (4, .d (.i 0))], [.arr 3 ((List.replicate l.length (⟨false, [], []⟩ : Rt)).map encR) false]⟩) (Weak.rep1 (f := encR) (z := ⟨false, [], []⟩) rfl Weak.lo) (by rw [List.map_replicate]; exact rep_tree rfl)) ⟨by simp, by simp, by simp⟩ ?_
  rintro ⟨i, q⟩ ⟨hi, hl, hd⟩ K hK
  simp only at hi hl hd ⊢
  by_cases h : i < l.length
  · have hbi := hb.get i
    have hr := toRat_n (l.getD i r0) hbi
    generalize hri : l.getD i ⟨false, [], []⟩ = r at *
    have hri' : l.getD i r0 = r := hri
    obtain ⟨hb1, hb2⟩ := hbi
    have hlen : (q.map encR).length = l.length := by simp [hl]
    have hg : q[i]? = some (q.getD i r0) := by rw [List.getD, List.getElem?_eq_getElem (by omega)]; rfl
    have hx : (q.map encR)[i]? = some (encR (q.getD i r0)) := by rw [List.getElem?_map, hg]; rfl
    generalize hds : q.map encR = ds at *
    have hi' : i < ds.length := by omega
    have hgd : gd (l.map encR) i = encR r := by rw [gd, List.getElem?_map, ← hri', List.getD]; rw [List.getElem?_eq_getElem h]; rfl
    refine .weak (Weak.open' (o := 0) (os := [.dead]) (by simp) hx) ?_
    repeat' first | (with_reducible first | refine nx' ?_ (by simp -implicitDefEqProofs (disch := omega) only [go_sem, hri, hri', hgd]; exact rfl) | refine n0 ?_ | refine rD ?_ | refine n1 ?_ | refine nilB_i fun b hb => ?_ | refine nPn (hr) ?_ | refine nP ?_ ?_ | refine nS fun K hK => ?_ | (refine n2 ?_ ?_ <;> intro h <;> first | subst (h : _ = true) | subst (h : _ = false) | (simp only [FX, LX, hri, hri', hgd] at h) | skip) | refine And.intro ?_ ?_ | refine nK ‹Imp _ _› ?_) | exact nl | fail
    have e : (q.set i r).map encR = ds.set i (.agg [.b r.neg, .sl (r.num.map .i), .sl (r.den.map .i)]) := by rw [List.map_set, hds]; rfl
    refine ⟨(i + 1, q.set i r), by simp only; omega, ⟨by simp only; omega, by simp [hl], ?_⟩, ?_⟩
    · rw [← hri]; exact take_set_succ r0 (by omega) hl hd
    · simp only
      rw [e]
      exact Weak.inR0 hi' rfl rfl rfl (by (simp -implicitDefEqProofs (disch := omega) only [go_sem, sub_nil, sub_cons, LX]; try ((repeat' refine And.intro ?_ ?_) <;> first | rfl | trivial | (congr 3; omega) | (congr 1; omega)))) rfl
  · repeat' first | (with_reducible first | refine nx' ?_ | refine n0 ?_ | refine rD ?_ | refine n1 ?_ | refine nilB_i fun b hb => ?_ | refine nP ?_ ?_ | refine nS fun K hK => ?_ | (refine n2 ?_ ?_ <;> intro h <;> first | subst (h : _ = true) | subst (h : _ = false) | skip) | refine And.intro ?_ ?_ | refine nK ‹Imp _ _› ?_) | exact nl | fail
    have e := take_all hl (by omega) hd
    subst e
    exact finG_of [(2, .msl 0 0 q.length)] [] Weak.lo rfl (by simp only [List.map_cons, List.map_nil]; rw [asD_tree rfl])
end Go.PL

/- AKR -/
namespace Go.PL
open Go Go.Proofs
set_option maxRecDepth 10000
set_option maxHeartbeats 4000000
set_option linter.unusedSimpArgs false
set_option linter.unusedVariables false
instance (n : Int) : Con CC 53 [.d (.i n)] (-9223372036854775808 ≤ n ∧ n ≤ 9223372036854775807) (.d (.s (itoaB n))) :=
  ⟨fun h => Den.ext ⟨rfl, rfl, .inl ⟨rfl, n, h.1, h.2, rfl, rfl⟩⟩⟩
theorem wrap8 {n : Int} (h1 : 0 ≤ n) (h2 : n < 256) : IntKind.wrap .u8 n = n := by
  have e1 : (2 ^ IntKind.u8.bits : Int) = 256 := by decide
  have e3 : IntKind.u8.signed = false := by decide
  simp only [IntKind.wrap, e1, e3, Bool.false_and, Bool.false_eq_true, if_false]
  omega
theorem digB_small {n : Nat} (h : n < 10) : digB n = strB [IntKind.u8.wrap (48 + (n : Int))] := by
  unfold digB strB
  rw [Lib.decDigits, dif_pos h, wrap8 (by omega) (by omega), show (48 + (n : Int)) = ((48 + n : Nat) : Int) by omega]
  rfl
theorem digB_big {n : Nat} (h : 10 ≤ n) : digB n = digB (n / 10) ++ strB [IntKind.u8.wrap (48 + ((n % 10 : Nat) : Int))] := by
  unfold digB strB
  rw [Lib.decDigits, dif_neg (by omega), wrap8 (by omega) (by omega), show (48 + ((n % 10 : Nat) : Int)) = ((48 + n % 10 : Nat) : Int) by omega]
  apply ByteArray.ext
  rw [ByteArray.data_append]
  show (Lib.decDigits (n / 10) ++ [UInt8.ofNat (48 + n % 10)]).toArray = (Lib.decDigits (n / 10)).toArray ++ [UInt8.ofNat (48 + n % 10)].toArray
  simp only [List.append_toArray]
theorem strB_size (l : List Int) : (strB l).size = l.length := by
  show ((l.map fun n => UInt8.ofNat n.toNat).toArray).size = _
  simp
theorem digB_size (n : Nat) : (digB n).size ≤ n + 1 := by
  show (Lib.decDigits n).toArray.size ≤ _
  induction n using Nat.strongRecOn with
  | _ n ih =>
    rw [Lib.decDigits]
    split
    · simp
    · have := ih (n / 10) (by omega)
      simp only [List.size_toArray, List.length_append, List.length_cons, List.length_nil] at this ⊢
      omega
theorem digits_c (n : Nat) : n ≤ 9223372036854775807 → CC 44 [.d (.i n)] [] (.d (.s (digB n))) [] := by
  induction n using Nat.strongRecOn with
  | _ n ih =>
    intro hn
    have hs := digB_size (n / 10)
    have e1 : (n : Int) / 10 = ((n / 10 : Nat) : Int) := by omega
    have e2 : (n : Int) % 10 = ((n % 10 : Nat) : Int) := by omega
    refine Den.pureI Tryz.func44 rfl 1 [.tmp 2] (by kernel_rfl) rfl rfl (by simp only [initE_nil, initE_cons, Nat.reduceAdd]; exact rfl) ?_
    repeat' first | (with_reducible first | refine nx' ?_ (by simp -implicitDefEqProofs (disch := omega) only [go_sem, e1, e2]; exact rfl) | refine n0 ?_ | refine Wp.drawR (by decide +kernel) ?_ | refine Wp.drawSR [7, 8, 9, 10] [false, false, false, false, false, false, false, true, true, true, true] (.op 7 [0,1,2] (.op 8 [0,1,2] (.op 9 [] (.op 10 [] .done)))) (by decide +kernel) ?_ | refine n1 ?_ | refine nilB_i fun b hb => ?_ | refine nPc (ih (n / 10) (by omega) (by omega)) ?_ | refine nP ?_ ?_ | refine nS fun K hK => ?_ | (refine n2 ?_ ?_ <;> intro h <;> first | subst (h : _ = true) | subst (h : _ = false) | (simp only [FX, LX, e1, e2] at h) | skip) | refine And.intro ?_ ?_ | refine nK ‹Imp _ _› ?_) | exact nl | fail
    · rw [digB_small (by omega)]
    · rw [strB_size]; simp only [List.length_cons, List.length_nil]; omega
    · rw [← digB_big (by omega)]
instance (n : Nat) : Con CC 44 [.d (.i n)] (n ≤ 9223372036854775807) (.d (.s (digB n))) := ⟨digits_c n⟩
theorem itoaB_nat (m : Nat) : itoaB (m : Int) = digB m := by unfold itoaB digB; rw [Lib.itoa_nonneg]
end Go.PL

/- PlStr -/
/- Texts as lists of bytes. -/
namespace Go.PL
open Go
def strT (l : List UInt8) : ByteArray := ⟨l.toArray⟩
theorem strT_size {l : List UInt8} : (strT l).size = l.length := by simp [strT, ByteArray.size]
theorem strT_app {a b : List UInt8} : strT a ++ strT b = strT (a ++ b) := by
  apply ByteArray.ext
  simp [strT, ByteArray.data_append]
theorem strT_ext (l : List UInt8) (a b : Nat) : (strT l).extract a b = strT ((l.drop a).take (b - a)) := by
  unfold strT
  apply ByteArray.ext
  simp [ByteArray.data_extract]
theorem strT_inj {a b : List UInt8} : strT a = strT b ↔ a = b := by
  constructor
  · intro h
    have := congrArg (fun t : ByteArray => t.data.toList) h
    simpa [strT] using this
  · rintro rfl; rfl
theorem strT_eq {a b : List UInt8} : ((strT a).toList == (strT b).toList) = decide (a = b) := by
  rw [Bool.eq_iff_iff, beq_iff_eq, decide_eq_true_eq, ByteArray.toList_eq, ByteArray.toList_eq]
  exact ⟨fun h => strT_inj.1 (ByteArray.ext (Array.toList_inj.1 h)), fun h => by rw [h]⟩
end Go.PL

/- AO -/
namespace Go.PL
open Go Go.Proofs
set_option maxRecDepth 10000
set_option maxHeartbeats 4000000
set_option linter.unusedSimpArgs false
set_option linter.unusedVariables false
/-- A text of bytes. -/
theorem strT_tail {c : UInt8} {l : List UInt8} : (strT (c :: l)).extract 1 (strT (c :: l)).size = strT l := by
  apply ByteArray.ext
  rw [ByteArray.data_extract]
  simp [strT, ByteArray.size]
theorem strT_tail4 {c : UInt8} {l : List UInt8} (h : l.length = 4) : (strT (c :: l)).extract 1 5 = strT l := by
  have e : (strT (c :: l)).size = 5 := by rw [strT_size, List.length_cons, h]
  rw [← e]; exact strT_tail
theorem natTB_nil : natTB [] = strT [48] := rfl
theorem natTB_ne {a : List Int} (h : a ≠ []) : natTB a = strT (textR a.reverse) := by rw [natTB, if_neg h]; rfl
abbrev limbs (a : List Int) : Prop := ∀ x ∈ a, 0 ≤ x ∧ x ≤ 9999
theorem natTB_size {a : List Int} (h : limbs a) : (natTB a).size ≤ 4 * a.length + 1 := by
  by_cases e : a = []
  · subst e; rw [natTB_nil, strT_size]; simp
  · rw [natTB_ne e, strT_size]
    have := textR_len (l := a.reverse) fun x hx => h x (by simpa using hx)
    rw [List.length_reverse] at this; omega
theorem digits_i (z : Int) (h : 0 ≤ z ∧ z ≤ 9999) : CC 44 [.d (.i z)] [] (.d (.s (strT (Lib.decDigits z.toNat)))) [] := by
  obtain ⟨n, rfl⟩ : ∃ n : Nat, z = n := ⟨z.toNat, by omega⟩
  exact digits_c n (by omega)
theorem digits_o (z : Int) (h : 0 ≤ z ∧ z ≤ 9999) : CC 44 [.d (.i (10000 + z))] [] (.d (.s (strT (49 :: pad4 z)))) [] := by
  rw [← pad4_lim h]
  obtain ⟨n, hn⟩ : ∃ n : Nat, 10000 + z = n := ⟨(10000 + z).toNat, by omega⟩
  rw [hn]
  exact digits_c n (by omega)
instance (a : List Int) : Con CC 80 [.d (.sl (a.map .i))] (a.length ≤ 1048576 ∧ limbs a) (.d (.s (natTB a))) :=
  ⟨fun h => Den.ext ⟨rfl, rfl, .inr (.inl ⟨rfl, a, h.1, h.2, rfl, rfl⟩)⟩⟩
instance (a : List Int) : Con CC 69 [.d (.sl (a.map .i))] (a.length ≤ 1048576 ∧ limbs a) (.d (.s (natTB a))) := by
  constructor; intro ⟨hl, ha⟩
  by_cases h0 : a.length = 0
  · have e : a = [] := List.eq_nil_of_length_eq_zero h0
    subst e
    refine Den.pureI Tryz.func69 rfl 1 [.tmp 2] (by kernel_rfl) rfl rfl (by simp only [initE_nil, initE_cons, Nat.reduceAdd]; exact rfl) ?_
    repeat' first | (with_reducible first | refine nx' ?_ | refine n0 ?_ | refine rD ?_ | refine n1 ?_ | refine nilB_i fun b hb => ?_ | refine nP ?_ ?_ | refine nS fun K hK => ?_ | (refine n2 ?_ ?_ <;> intro h <;> first | subst (h : _ = true) | subst (h : _ = false) | skip) | refine And.intro ?_ ?_ | refine nK ‹Imp _ _› ?_) | exact nl | fail
    rfl
  have hne : a ≠ [] := by rintro rfl; exact h0 rfl
  have hd := digits_i _ (ha _ (getD_mem 0 (show a.length - 1 < a.length by omega)))
  have e1 : ((a.length : Int) - 1).toNat = a.length - 1 := by omega
  have htl : ∀ k, (textR (a.drop k).reverse).length ≤ 4 * a.length := fun k => by
    have := textR_len (l := (a.drop k).reverse) fun x hx => ha x (List.mem_of_mem_drop (by simpa using hx))
    rw [List.length_reverse, List.length_drop] at this
    omega
  refine Den.pureI Tryz.func69 rfl 1 [.tmp 2] (by kernel_rfl) rfl rfl (by simp only [initE_nil, initE_cons, Nat.reduceAdd]; exact rfl) ?_
  repeat' first | (with_reducible first | refine nx' ?_ (by simp -implicitDefEqProofs (disch := omega) only [go_sem, e1]; exact rfl) | refine n0 ?_ | refine rD ?_ | refine n1 ?_ | refine nilB_i fun b hb => ?_ | refine nPc (hd) ?_ | refine nP ?_ ?_ | refine nS fun K hK => ?_ | (refine n2 ?_ ?_ <;> intro h <;> first | subst (h : _ = true) | subst (h : _ = false) | (simp only [FX, LX, e1] at h) | skip) | refine And.intro ?_ ?_ | refine nK ‹Imp _ _› ?_) | exact nl | fail
  refine Wp.loopR (fun x : Nat => ⟨[(0, .d (.sl (a.map .i))), (3, .d (.s (strT (textR (a.drop x).reverse)))), (4, .d (.i ((x : Int) - 1)))], []⟩) (fun x => x) (fun x => x < a.length) (a.length - 1)
    (Weak.low (by simp -implicitDefEqProofs (disch := omega) only [go_sem, sub_nil, sub_cons, LX, textR_top (show 0 < a.length by omega), e1, show (((a.length - 1 : Nat) : Int) - 1) = (a.length : Int) - 2 by omega]; try ((repeat' refine And.intro ?_ ?_) <;> first | rfl | trivial | (congr 3; omega) | (congr 1; omega)))) (by omega) ?_
  rintro x hx K hK
  have hd2 := htl x
  by_cases h1 : x = 0
  · subst h1
    repeat' first | (with_reducible first | refine nx' ?_ | refine n0 ?_ | refine rD ?_ | refine n1 ?_ | refine nilB_i fun b hb => ?_ | refine nP ?_ ?_ | refine nS fun K hK => ?_ | (refine n2 ?_ ?_ <;> intro h <;> first | subst (h : _ = true) | subst (h : _ = false) | skip) | refine And.intro ?_ ?_ | refine nK ‹Imp _ _› ?_) | exact nl | fail
    rw [natTB_ne hne]
  · have hlim := ha _ (getD_mem 0 (show x - 1 < a.length by omega))
    have e2 : ((x : Int) - 1).toNat = x - 1 := by omega
    have ho := digits_o _ hlim
    have hp := pad4_len hlim
    have hd3 := htl (x - 1)
    have ht5 := strT_tail4 (c := 49) hp
    have et : textR (a.drop (x - 1)).reverse = textR (a.drop x).reverse ++ pad4 (a.getD (x - 1) 0) := by
      have := textR_drop (a := a) (k := x - 1) (by omega)
      rw [show x - 1 + 1 = x by omega] at this
      exact this
    repeat' first | (with_reducible first | refine nx' ?_ (by simp -implicitDefEqProofs (disch := omega) only [go_sem, e2, strT_size, ht5, strT_app, hp]; exact rfl) | refine n0 ?_ | refine rD ?_ | refine n1 ?_ | refine nilB_i fun b hb => ?_ | refine nPc (ho) ?_ | refine nP ?_ ?_ | refine nS fun K hK => ?_ | (refine n2 ?_ ?_ <;> intro h <;> first | subst (h : _ = true) | subst (h : _ = false) | (simp only [FX, LX, e2, strT_size, ht5, strT_app, hp] at h) | skip) | refine And.intro ?_ ?_ | refine nK ‹Imp _ _› ?_) | exact nl | fail
    exact ⟨x - 1, by omega, by omega, (Weak.low (by simp -implicitDefEqProofs (disch := omega) only [go_sem, sub_nil, sub_cons, LX, et, show (((x - 1 : Nat) : Int) - 1) = (x : Int) - 1 - 1 by omega]; try ((repeat' refine And.intro ?_ ?_) <;> first | rfl | trivial | (congr 3; omega) | (congr 1; omega))))⟩
end Go.PL

/- AO2 -/
namespace Go.PL
open Go Go.Proofs
set_option maxRecDepth 10000
set_option maxHeartbeats 4000000
set_option linter.unusedSimpArgs false
set_option linter.unusedVariables false
theorem limbs_digs (m : Nat) : limbs (digs m) := fun x hx => by have := Dig.digs m x hx; omega
theorem okRat_parts {g : Bool} {u v : List Int} (h : okRat ⟨g, u, v⟩ = true) : ∃ m n, u = digs m ∧ v = digs n ∧ (digs m).length ≤ 40 ∧ (digs n).length ≤ 40 := by
  unfold okRat at h
  simp only [Bool.and_eq_true] at h
  obtain ⟨m, hm, hm2⟩ := okNat_digs h.1.1.1.1
  obtain ⟨n, hn, hn2⟩ := okNat_digs h.1.1.1.2
  exact ⟨m, n, hm, hn, hm2, hn2⟩
theorem cmp_one (n : Nat) : cmpN n 1 = 0 ↔ digs n = [1] := by
  constructor
  · intro h
    have : n = 1 := by unfold cmpN at h; split at h <;> (try split at h) <;> omega
    rw [this, digs_one]
  · intro h
    have : digs n = digs 1 := by rw [h, digs_one]
    rw [digs_inj this]; rfl
/-- A rational's text. -/
def ratTB (r : Rt) : ByteArray := if r.den = [1] then (if r.neg then strT [45] ++ natTB r.num else natTB r.num) else (if r.neg then strT [45] ++ natTB r.num else natTB r.num) ++ (strT [47] ++ natTB r.den)
theorem ba_assoc (a b c : ByteArray) : a ++ b ++ c = a ++ (b ++ c) := by
  apply ByteArray.ext
  simp only [ByteArray.data_append, Array.append_assoc]
theorem ratTB_size {r : Rt} (h : okRat r = true) : (ratTB r).size ≤ 400 := by
  obtain ⟨g, u, v⟩ := r
  obtain ⟨m, n, rfl, rfl, hm, hn⟩ := okRat_parts h
  have h1 := natTB_size (limbs_digs m)
  have h2 := natTB_size (limbs_digs n)
  have e1 : (strT [45]).size = 1 := rfl
  have e2 : (strT [47]).size = 1 := rfl
  unfold ratTB
  simp only
  split <;> split <;> (try simp only [ByteArray.size_append]) <;> omega
instance (g : Bool) (u v : List Int) : Con CC 43 [.d (.agg [.b g, .sl (u.map .i), .sl (v.map .i)])] (okRat ⟨g, u, v⟩ = true) (.d (.s (ratTB ⟨g, u, v⟩))) := by
  constructor; intro h
  obtain ⟨m, n, rfl, rfl, hm, hn⟩ := okRat_parts h
  have h1 := natTB_size (limbs_digs m)
  have h2 := natTB_size (limbs_digs n)
  have l1 := limbs_digs m
  have l2 := limbs_digs n
  have e1 : (ByteArray.mk #[45]).size = 1 := rfl
  have e2 : (ByteArray.mk #[47]).size = 1 := rfl
  have hc := cmp_one n
  refine Den.pureI Tryz.func43 rfl 1 [.tmp 2] (by kernel_rfl) rfl rfl (by simp only [initE_nil, initE_cons, Nat.reduceAdd]; exact rfl) ?_
  repeat' first | (with_reducible first | refine nx' ?_ (by simp -implicitDefEqProofs (disch := omega) only [go_sem, e1, e2, ByteArray.size_append]; exact rfl) | refine n0 ?_ | refine rD ?_ | refine n1 ?_ | refine nilB_i fun b hb => ?_ | refine nP ?_ ?_ | refine nS fun K hK => ?_ | (refine n2 ?_ ?_ <;> intro h <;> first | subst (h : _ = true) | subst (h : _ = false) | (simp only [FX, LX, e1, e2, ByteArray.size_append] at h) | skip) | refine And.intro ?_ ?_ | refine nK ‹Imp _ _› ?_) | exact nl | fail
  all_goals (simp only [ratTB])
  all_goals (first | (rw [if_neg (fun e => (by assumption : cmpN n 1 ≠ 0) (hc.2 e))]) | rw [if_pos (hc.1 (by assumption))])
  all_goals (first | rfl | (simp only [if_true, Bool.false_eq_true, if_false, ba_assoc]; rfl))
instance (g : Bool) (u v : List Int) : Con CC 52 [.d (.agg [.b g, .sl (u.map .i), .sl (v.map .i)])] (okRat ⟨g, u, v⟩ = true) (.d (.s (ratTB ⟨g, u, v⟩))) := by
  constructor; intro h
  obtain ⟨m, n, rfl, rfl, hm, hn⟩ := okRat_parts h
  have h1 := natTB_size (limbs_digs m)
  have h2 := natTB_size (limbs_digs n)
  have l1 := limbs_digs m
  have l2 := limbs_digs n
  have e1 : (ByteArray.mk #[45]).size = 1 := rfl
  have e2 : (ByteArray.mk #[47]).size = 1 := rfl
  have hc := cmp_one n
  refine Den.pureI Tryz.func52 rfl 1 [.tmp 2] (by kernel_rfl) rfl rfl (by simp only [initE_nil, initE_cons, Nat.reduceAdd]; exact rfl) ?_
  repeat' first | (with_reducible first | refine nx' ?_ (by simp -implicitDefEqProofs (disch := omega) only [go_sem, e1, e2, ByteArray.size_append]; exact rfl) | refine n0 ?_ | refine Wp.drawR (by decide +kernel) ?_ | refine Wp.drawSR [2, 3, 4] [false, false, true, true, true] (.op 2 [0,1] (.op 3 [] (.op 4 [] .done))) (by decide +kernel) ?_ | refine n1 ?_ | refine nilB_i fun b hb => ?_ | refine nP ?_ ?_ | refine nS fun K hK => ?_ | (refine n2 ?_ ?_ <;> intro h <;> first | subst (h : _ = true) | subst (h : _ = false) | (simp only [FX, LX, e1, e2, ByteArray.size_append] at h) | skip) | refine And.intro ?_ ?_ | refine nK ‹Imp _ _› ?_) | exact nl | fail
  all_goals (simp only [ratTB])
  all_goals (first | (rw [if_neg (fun e => (by assumption : cmpN n 1 ≠ 0) (hc.2 e))]) | rw [if_pos (hc.1 (by assumption))])
  all_goals (first | rfl | (simp only [if_true, Bool.false_eq_true, if_false, ba_assoc]; rfl))
theorem arr_R1 {b : Bool} {x y : List Int} {fz : Bool} : Ob.arr 3 [D.agg [.val (.bool b), .sl (x.map .i), .sl (y.map .i)]] fz = .arr 3 ([(⟨b, x, y⟩ : Rt)].map encR) fz := rfl
attribute [go_sem] arr_R1
theorem bR_sz {r : Rt} (h : ¬ szL 1048576 (szR r) < 0) : bR r := by
  have h2 : szR r ≤ 1048576 := by
    unfold szL at h
    split at h <;> omega
  unfold szR at h2
  exact ⟨by omega, by omega⟩
end Go.PL

/- PlDec -/
/- Decimal digits read: what a text of digits stands for, and its limbs of four digits. -/
namespace Go.PL
open Go
def isDg (c : UInt8) : Prop := 48 ≤ c.toNat ∧ c.toNat ≤ 57
instance (c : UInt8) : Decidable (isDg c) := by unfold isDg; infer_instance
/-- What a digit stands for. -/
def dgN (c : UInt8) : Nat := c.toNat - 48
/-- What digits stand for, the last one first. -/
def dvR : List UInt8 → Nat
  | [] => 0
  | c :: r => dgN c + 10 * dvR r
def dv (l : List UInt8) : Nat := dvR l.reverse
theorem dvR_app (l m : List UInt8) : dvR (l ++ m) = dvR l + 10 ^ l.length * dvR m := by
  induction l with
  | nil => rw [List.nil_append, List.length_nil, Nat.pow_zero, Nat.one_mul]; exact (Nat.zero_add _).symm
  | cons c r ih =>
    rw [List.cons_append, List.length_cons, Nat.pow_succ]
    show dgN c + 10 * dvR (r ++ m) = dgN c + 10 * dvR r + 10 ^ r.length * 10 * dvR m
    rw [ih, Nat.mul_add, Nat.add_assoc, Nat.mul_comm (10 ^ r.length) 10, Nat.mul_assoc]
theorem dv_app (l m : List UInt8) : dv (l ++ m) = dv l * 10 ^ m.length + dv m := by
  unfold dv
  rw [List.reverse_append, dvR_app, List.length_reverse, Nat.mul_comm, Nat.add_comm]
theorem dv_one (c : UInt8) : dv [c] = c.toNat - 48 := by
  show dgN c + 10 * 0 = _
  rw [Nat.mul_zero]; rfl
theorem dv_snoc (l : List UInt8) (c : UInt8) : dv (l ++ [c]) = dv l * 10 + (c.toNat - 48) := by
  rw [dv_app, dv_one]; rfl
theorem dv_nil : dv [] = 0 := rfl
theorem snocRec {motive : List UInt8 → Prop} (h0 : motive []) (h1 : ∀ l c, motive l → motive (l ++ [c])) : ∀ l, motive l := by
  intro l
  have key : ∀ r : List UInt8, motive r.reverse := by
    intro r
    induction r with
    | nil => exact h0
    | cons c r ih => rw [List.reverse_cons]; exact h1 _ _ ih
  have := key l.reverse
  rwa [List.reverse_reverse] at this
theorem dv_lt {l : List UInt8} (h : ∀ c ∈ l, isDg c) : dv l < 10 ^ l.length := by
  induction l using snocRec with
  | h0 => exact Nat.one_pos
  | h1 l c ih =>
    have h1 := ih fun x hx => h x (by simp [hx])
    have h2 := h c (by simp)
    unfold isDg at h2
    rw [dv_snoc, List.length_append, List.length_singleton, Nat.pow_succ]
    generalize 10 ^ l.length = p at *
    omega
theorem ofNat_toNat {n : Nat} (h : n < 256) : (UInt8.ofNat n).toNat = n := by simp [UInt8.toNat_ofNat']; omega
theorem dec_dig (n : Nat) : ∀ c ∈ Lib.decDigits n, isDg c := by
  induction n using Nat.strongRecOn with
  | _ n ih =>
    by_cases h : n < 10
    · rw [dec_small h]
      intro c hc
      rw [List.mem_singleton] at hc
      subst hc
      unfold isDg
      rw [ofNat_toNat (by omega)]; omega
    · rw [dec_step (by omega)]
      intro c hc
      rw [List.mem_append, List.mem_singleton] at hc
      rcases hc with hc | rfl
      · exact ih (n / 10) (by omega) c hc
      · unfold isDg
        rw [ofNat_toNat (by omega)]; omega
theorem dv_dec (n : Nat) : dv (Lib.decDigits n) = n := by
  induction n using Nat.strongRecOn with
  | _ n ih =>
    by_cases h : n < 10
    · rw [dec_small h, dv_one, ofNat_toNat (by omega)]; omega
    · rw [dec_step (by omega), dv_snoc, ih (n / 10) (by omega), ofNat_toNat (by omega)]; omega
theorem dec_inj {m n : Nat} (h : Lib.decDigits m = Lib.decDigits n) : m = n := by
  rw [← dv_dec m, h, dv_dec]
theorem dec_ne (n : Nat) : Lib.decDigits n ≠ [] := by
  by_cases h : n < 10
  · rw [dec_small h]; simp
  · rw [dec_step (by omega)]; simp
/-- Digits as a number's text has them: no nought ahead of another. -/
def okDg (l : List UInt8) : Prop := l ≠ [] ∧ (∀ c ∈ l, isDg c) ∧ (l.length = 1 ∨ l.getD 0 0 ≠ 48)
theorem dec_ok (n : Nat) : okDg (Lib.decDigits n) := by
  refine ⟨dec_ne n, dec_dig n, ?_⟩
  induction n using Nat.strongRecOn with
  | _ n ih =>
    by_cases h : n < 10
    · rw [dec_small h]; simp
    · have h1 := ih (n / 10) (by omega)
      have h2 := dec_ne (n / 10)
      have h4 := dv_dec (n / 10)
      have h5 := dec_dig (n / 10)
      rw [dec_step (by omega)]
      right
      cases hd : Lib.decDigits (n / 10) with
      | nil => exact absurd hd h2
      | cons c r =>
        rw [hd] at h1 h4 h5
        simp only [List.cons_append, List.getD_cons_zero]
        rcases h1 with h1 | h1
        · have : r = [] := List.eq_nil_of_length_eq_zero (by simpa using h1)
          subst this
          rw [dv_one] at h4
          rintro rfl
          have : (48 : UInt8).toNat = 48 := rfl
          omega
        · simpa using h1
theorem dec_of {l : List UInt8} (h : okDg l) : Lib.decDigits (dv l) = l := by
  obtain ⟨h1, h2, h3⟩ := h
  induction l using snocRec with
  | h0 => exact absurd rfl h1
  | h1 l c ih =>
    have hc := h2 c (by simp)
    unfold isDg at hc
    have hu : UInt8.ofNat (48 + (c.toNat - 48)) = c := by
      rw [show 48 + (c.toNat - 48) = c.toNat by omega]; simp
    by_cases hl : l = []
    · subst hl
      rw [List.nil_append, dv_one, dec_small (by omega), hu]
    · have h0 : l.getD 0 0 ≠ 48 := by
        rcases h3 with h3 | h3
        · exfalso
          have : 0 < l.length := List.length_pos_iff.2 hl
          rw [List.length_append, List.length_singleton] at h3; omega
        · cases l with
          | nil => exact absurd rfl hl
          | cons x r => simpa using h3
      have hd : ∀ c ∈ l, isDg c := fun x hx => h2 x (by simp [hx])
      have ihl := ih hl hd (.inr h0)
      have hpos : 1 ≤ dv l := by
        rcases Nat.eq_zero_or_pos (dv l) with e | e
        · exfalso
          rw [e, dec_small (by omega)] at ihl
          rw [← ihl] at h0
          exact h0 rfl
        · exact e
      rw [dv_snoc, dec_step (by omega), show (dv l * 10 + (c.toNat - 48)) / 10 = dv l by omega, show (dv l * 10 + (c.toNat - 48)) % 10 = c.toNat - 48 by omega, ihl, hu]
/-- Four digits more. -/
theorem dec_four {n : Nat} (h : 10000 ≤ n) : Lib.decDigits n = Lib.decDigits (n / 10000) ++ pad4 ((n % 10000 : Nat) : Int) := by
  rw [pad4_eq (by omega), dec_step (n := n) (by omega), dec_step (n := n / 10) (by omega), dec_step (n := n / 10 / 10) (by omega), dec_step (n := n / 10 / 10 / 10) (by omega)]
  simp only [List.append_assoc, List.cons_append, List.nil_append]
  rw [show n / 10 / 10 / 10 / 10 = n / 10000 by omega, show n / 10 / 10 / 10 % 10 = n % 10000 / 1000 by omega, show n / 10 / 10 % 10 = n % 10000 / 100 % 10 by omega, show n / 10 % 10 = n % 10000 / 10 % 10 by omega, show n % 10 = n % 10000 % 10 by omega]
/-- Digits of limbs are the number's. -/
theorem textR_digs (m : Nat) (h : 0 < m) : textR (digs m).reverse = Lib.decDigits m := by
  induction m using Nat.strongRecOn with
  | _ m ih =>
    rw [digs_pos h, List.reverse_cons]
    by_cases h1 : m / 10000 = 0
    · rw [h1, digs_zero, List.reverse_nil, List.nil_append, textR_one]
      congr 1; omega
    · rw [textR_snoc _ (by simpa [digs_nil] using h1), ih (m / 10000) (by omega) (by omega), ← dec_four (by omega)]
theorem natTB_digs (m : Nat) : natTB (digs m) = ⟨(Lib.decDigits m).toArray⟩ := by
  by_cases h : m = 0
  · subst h
    rw [digs_zero, dec_small (by omega)]; rfl
  · rw [natTB, if_neg (by simpa [digs_nil] using h), textR_digs m (by omega)]
end Go.PL

/- PlSpl -/
/- Texts parted at a byte. -/
namespace Go.PL
open Go
/-- The pieces between the instances of a byte. -/
def spl (c : UInt8) : List UInt8 → List (List UInt8)
  | [] => [[]]
  | x :: r => if x = c then [] :: spl c r else match spl c r with
    | h :: t => (x :: h) :: t
    | [] => [[x]]
theorem spl_nil (c : UInt8) : spl c [] = [[]] := rfl
theorem spl_ne (c : UInt8) : ∀ l, spl c l ≠ []
  | [] => by simp [spl]
  | x :: r => by
    unfold spl
    split
    · simp
    · split <;> simp
theorem spl_eq (c : UInt8) (r : List UInt8) : spl c (c :: r) = [] :: spl c r := by rw [spl, if_pos rfl]
theorem spl_cons {c x : UInt8} (r : List UInt8) (h : x ≠ c) : ∃ a t, spl c r = a :: t ∧ spl c (x :: r) = (x :: a) :: t := by
  cases hs : spl c r with
  | nil => exact absurd hs (spl_ne c r)
  | cons a t => exact ⟨a, t, rfl, by rw [spl, if_neg h, hs]⟩
theorem spl_free {c : UInt8} {w : List UInt8} (h : c ∉ w) : spl c w = [w] := by
  induction w with
  | nil => rfl
  | cons x r ih =>
    have h1 : x ≠ c := fun e => h (by simp [e])
    obtain ⟨a, t, e1, e2⟩ := spl_cons r h1
    rw [ih fun hc => h (by simp [hc])] at e1
    cases e1
    exact e2
theorem spl_app {c : UInt8} {w : List UInt8} (r : List UInt8) (h : c ∉ w) : spl c (w ++ c :: r) = w :: spl c r := by
  induction w with
  | nil => exact spl_eq c r
  | cons x v ih =>
    have h1 : x ≠ c := fun e => h (by simp [e])
    obtain ⟨a, t, e1, e2⟩ := spl_cons (v ++ c :: r) h1
    rw [ih fun hc => h (by simp [hc])] at e1
    cases e1
    exact e2
/-- No piece has the byte. -/
theorem spl_mem {c : UInt8} : ∀ {l w : List UInt8}, w ∈ spl c l → c ∉ w
  | [], w, h => by
    rw [spl_nil, List.mem_singleton] at h
    subst h; simp
  | x :: r, w, h => by
    by_cases hx : x = c
    · subst hx
      rw [spl_eq, List.mem_cons] at h
      rcases h with rfl | h
      · simp
      · exact spl_mem h
    · obtain ⟨a, t, e1, e2⟩ := spl_cons r hx
      rw [e2, List.mem_cons] at h
      rcases h with rfl | h
      · have := spl_mem (c := c) (l := r) (w := a) (by rw [e1]; simp)
        rw [List.mem_cons]
        rintro (e | e)
        · exact hx e.symm
        · exact this e
      · exact spl_mem (l := r) (by rw [e1]; simp [h])
/-- The rest behind the first piece, each piece with the byte ahead. -/
def tailS (c : UInt8) (ws : List (List UInt8)) : List UInt8 := (ws.map fun w => c :: w).flatten
def joinS (c : UInt8) : List (List UInt8) → List UInt8
  | [] => []
  | w :: r => w ++ tailS c r
theorem joinS_eq (c : UInt8) (ws : List (List UInt8)) : Lib.join ws [c] = joinS c ws := by
  match ws with
  | [] => rw [Lib.join_nil]; rfl
  | w :: r =>
    rw [Lib.join_cons]
    have : ∀ r : List (List UInt8), Lib.joinTail [c] r = tailS c r := by
      intro r
      induction r with
      | nil => rfl
      | cons x r ih =>
        have e : Lib.joinTail [c] (x :: r) = [c] ++ x ++ Lib.joinTail [c] r := by simp [Lib.joinTail]
        rw [e, ih]; simp [tailS]
    rw [this]; rfl
theorem joinS_spl (c : UInt8) : ∀ l, joinS c (spl c l) = l
  | [] => rfl
  | x :: r => by
    by_cases hx : x = c
    · subst hx
      rw [spl_eq]
      have ih := joinS_spl x r
      cases hs : spl x r with
      | nil => exact absurd hs (spl_ne x r)
      | cons a t =>
        rw [hs] at ih
        show [] ++ tailS x (a :: t) = _
        rw [List.nil_append]
        show (x :: a) ++ tailS x t = _
        rw [List.cons_append]
        exact congrArg (x :: ·) ih
    · obtain ⟨a, t, e1, e2⟩ := spl_cons r hx
      have ih := joinS_spl c r
      rw [e1] at ih
      rw [e2]
      exact congrArg (x :: ·) ih
theorem spl_joinS {c : UInt8} : ∀ {ws : List (List UInt8)}, ws ≠ [] → (∀ w ∈ ws, c ∉ w) → spl c (joinS c ws) = ws
  | [], h, _ => absurd rfl h
  | [w], _, h => by
    show spl c (w ++ []) = _
    rw [List.append_nil]; exact spl_free (h w (by simp))
  | w :: v :: r, _, h => by
    have ih := spl_joinS (ws := v :: r) (by simp) fun x hx => h x (by simp only [List.mem_cons] at hx ⊢; exact .inr hx)
    have e : joinS c (w :: v :: r) = w ++ c :: joinS c (v :: r) := by
      show w ++ tailS c (v :: r) = _
      simp [tailS, joinS]
    rw [e, spl_app _ (h w (by simp)), ih]
theorem joinS_inj {c : UInt8} {ws vs : List (List UInt8)} (h1 : ws ≠ []) (h2 : vs ≠ []) (h3 : ∀ w ∈ ws, c ∉ w) (h4 : ∀ w ∈ vs, c ∉ w) (h : joinS c ws = joinS c vs) : ws = vs := by
  rw [← spl_joinS h1 h3, h, spl_joinS h2 h4]
theorem joinS_app {c : UInt8} : ∀ {ws vs : List (List UInt8)}, ws ≠ [] → vs ≠ [] → joinS c (ws ++ vs) = joinS c ws ++ c :: joinS c vs
  | [], _, h, _ => absurd rfl h
  | w :: r, [], _, h => absurd rfl h
  | w :: r, v :: s, _, _ => by simp [joinS, tailS]

/-- Where a byte comes first. -/
theorem first_at {c : UInt8} {l : List UInt8} (h : c ∈ l) : ∃ w r, l = w ++ c :: r ∧ c ∉ w := by
  induction l with
  | nil => cases h
  | cons x s ih =>
    by_cases hx : x = c
    · exact ⟨[], s, by rw [hx]; rfl, by simp⟩
    · obtain ⟨w, r, e, hw⟩ := ih (by
        rcases List.mem_cons.1 h with e | e
        · exact absurd e.symm hx
        · exact e)
      refine ⟨x :: w, r, by rw [e]; rfl, ?_⟩
      rw [List.mem_cons]
      rintro (e | e)
      · exact hx e.symm
      · exact hw e
theorem index_none1 {c : UInt8} {l : List UInt8} (h : c ∉ l) : Lib.index l [c] = -1 := by
  refine Lib.index_none fun j _ => ?_
  cases ho : Lib.occAt l [c] j with
  | false => rfl
  | true =>
    have := Lib.occAt_head (t := []) rfl ho
    exact absurd (List.mem_of_getElem? this) h
theorem index_at1 {c : UInt8} {w r : List UInt8} (h : c ∉ w) : Lib.index (w ++ c :: r) [c] = w.length := by
  refine Lib.index_first (by simp) ?_ fun j hj => ?_
  · simp [Lib.occAt, List.isPrefixOf]
  · cases ho : Lib.occAt (w ++ c :: r) [c] j with
    | false => rfl
    | true =>
      have := Lib.occAt_head (t := []) rfl ho
      rw [List.getElem?_append_left hj] at this
      exact absurd (List.mem_of_getElem? this) h
theorem split_spl (c : UInt8) (l : List UInt8) : Lib.split l [c] = spl c l := by
  generalize hn : l.length = n
  induction n using Nat.strongRecOn generalizing l with
  | _ n ih =>
    unfold Lib.split
    by_cases h : c ∈ l
    · obtain ⟨w, r, rfl, hw⟩ := first_at h
      have hi := index_at1 (r := r) hw
      rw [Lib.count_hit (by simp) hi, Nat.add_comm, Lib.splitK, if_neg (by rw [hi]; simp), hi, spl_app r hw]
      have e1 : (w ++ c :: r).take ((w.length : Int).toNat + 0) = w := by simp
      have e2 : (w ++ c :: r).drop ((w.length : Int).toNat + [c].length) = r := by simp
      have e3 : (w ++ c :: r).drop (w.length + [c].length) = r := by simp
      rw [e1, e2, e3, ← ih r.length (by rw [← hn]; simp; omega) r rfl]
      rfl
    · rw [Lib.count_miss (index_none1 h), spl_free h]; rfl
end Go.PL

/- SR0 -/
namespace Go.PL
open Go Go.Proofs
set_option maxRecDepth 10000
set_option maxHeartbeats 4000000
set_option linter.unusedSimpArgs false
set_option linter.unusedVariables false
/-- Bytes of a text. -/
def bsT (t : ByteArray) : List UInt8 := t.data.toList
theorem bsT_app (a b : ByteArray) : bsT (a ++ b) = bsT a ++ bsT b := by simp [bsT, ByteArray.data_append]
theorem bsT_inj {a b : ByteArray} (h : bsT a = bsT b) : a = b := ByteArray.ext (Array.toList_inj.1 h)
theorem bsT_mk (l : List UInt8) : bsT ⟨l.toArray⟩ = l := rfl
theorem bsT_digB (n : Nat) : bsT (digB n) = Lib.decDigits n := rfl
/-- A rational's digits. -/
def ratL (b : Bool) (m n : Nat) : List UInt8 := (if b then [45] else []) ++ Lib.decDigits m ++ (if n = 1 then [] else 47 :: Lib.decDigits n)
theorem digs_one_iff {n : Nat} : digs n = [1] ↔ n = 1 := by
  constructor
  · intro h; rw [← digs_one] at h; exact digs_inj h
  · rintro rfl; exact digs_one
theorem ratTB_bs (b : Bool) (m n : Nat) : bsT (ratTB ⟨b, digs m, digs n⟩) = ratL b m n := by
  unfold ratTB ratL
  simp only [digs_one_iff, natTB_digs]
  by_cases h : n = 1
  · rw [if_pos h, if_pos h]
    cases b <;> simp [bsT_app, bsT_mk, strT]
  · rw [if_neg h, if_neg h]
    cases b <;> simp [bsT_app, bsT_mk, strT]
theorem isDg_ne {c : UInt8} (h : isDg c) (x : UInt8) (hx : x.toNat < 48 ∨ 57 < x.toNat) : c ≠ x := by
  rintro rfl; unfold isDg at h; omega
theorem dec_free (n : Nat) (x : UInt8) (hx : x.toNat < 48 ∨ 57 < x.toNat) : x ∉ Lib.decDigits n := fun h => isDg_ne (dec_dig n x h) x hx rfl
theorem ratL_free (b : Bool) (m n : Nat) : (32 : UInt8) ∉ ratL b m n := by
  have h1 := dec_free m 32 (.inl (by decide))
  have h2 := dec_free n 32 (.inl (by decide))
  unfold ratL
  by_cases h : n = 1 <;> cases b <;> simp [h, h1, h2]
theorem ratL_inj {b c : Bool} {m n u v : Nat} (h : ratL b m n = ratL c u v) : b = c ∧ m = u ∧ n = v := by
  have hd : ∀ k, ∃ x r, Lib.decDigits k = x :: r ∧ x ≠ 45 := by
    intro k
    cases e : Lib.decDigits k with
    | nil => exact absurd e (dec_ne k)
    | cons x r => exact ⟨x, r, rfl, isDg_ne (dec_dig k x (by rw [e]; simp)) 45 (.inl (by decide))⟩
  obtain ⟨x, r, e1, h1⟩ := hd m
  obtain ⟨y, s, e2, h2⟩ := hd u
  have hb : b = c := by
    unfold ratL at h
    rw [e1, e2] at h
    cases b <;> cases c <;> simp at h
    · rfl
    · exact absurd h.1 h1
    · exact absurd h.1.symm h2
    · rfl
  subst hb
  have h3 : Lib.decDigits m ++ (if n = 1 then [] else 47 :: Lib.decDigits n) = Lib.decDigits u ++ (if v = 1 then [] else 47 :: Lib.decDigits v) := by
    unfold ratL at h
    rw [List.append_assoc, List.append_assoc] at h
    exact List.append_cancel_left h
  have f1 := dec_free m 47 (.inl (by decide))
  have f2 := dec_free u 47 (.inl (by decide))
  have f3 := dec_free n 47 (.inl (by decide))
  have f4 := dec_free v 47 (.inl (by decide))
  by_cases hn : n = 1
  · by_cases hv : v = 1
    · rw [if_pos hn, if_pos hv, List.append_nil, List.append_nil] at h3
      exact ⟨rfl, dec_inj h3, by rw [hn, hv]⟩
    · rw [if_pos hn, if_neg hv, List.append_nil] at h3
      exfalso; rw [h3] at f1; simp at f1
  · by_cases hv : v = 1
    · rw [if_neg hn, if_pos hv, List.append_nil] at h3
      exfalso; rw [← h3] at f2; simp at f2
    · rw [if_neg hn, if_neg hv] at h3
      have h4 := congrArg (spl 47) h3
      rw [spl_app _ f1, spl_app _ f2, spl_free f3, spl_free f4] at h4
      injection h4 with h5 h6
      injection h6 with h7 h8
      exact ⟨rfl, dec_inj h5, dec_inj h7⟩
theorem okRat_form {r : Rt} (h : okRat r = true) : ∃ m n, r = ⟨r.neg, digs m, digs n⟩ ∧ Nat.gcd m n = 1 ∧ 0 < n ∧ (m = 0 → r.neg = false) ∧ (digs m).length ≤ 40 ∧ (digs n).length ≤ 40 := by
  obtain ⟨g, u, v⟩ := r
  obtain ⟨m, n, rfl, rfl, hm, hn⟩ := okRat_parts h
  rw [okRat_digs hm hn] at h
  simp only [Bool.and_eq_true, Bool.not_eq_true', beq_iff_eq, beq_eq_false_iff_ne, Bool.and_eq_false_iff] at h
  refine ⟨m, n, rfl, h.2, by omega, fun e => ?_, hm, hn⟩
  rcases h.1.2 with h2 | h2
  · exact absurd e h2
  · exact h2
theorem ratTB_inj {r s : Rt} (hr : okRat r = true) (hs : okRat s = true) (h : ratTB r = ratTB s) : r = s := by
  obtain ⟨m, n, e1, _⟩ := okRat_form hr
  obtain ⟨u, v, e2, _⟩ := okRat_form hs
  rw [e1, e2] at h
  have h2 := congrArg bsT h
  rw [ratTB_bs, ratTB_bs] at h2
  obtain ⟨q1, q2, q3⟩ := ratL_inj h2
  rw [e1, e2, q1, q2, q3]
theorem ratTB_free {r : Rt} (hr : okRat r = true) : (32 : UInt8) ∉ bsT (ratTB r) := by
  obtain ⟨m, n, e1, _⟩ := okRat_form hr
  rw [e1, ratTB_bs]; exact ratL_free _ _ _
theorem tl_beq {t u : ByteArray} : (t.toList == u.toList) = decide (t = u) := by
  rw [Bool.eq_iff_iff, beq_iff_eq, decide_eq_true_eq, ByteArray.toList_eq, ByteArray.toList_eq]
  exact ⟨fun h => ByteArray.ext (Array.toList_inj.1 h), fun h => by rw [h]⟩
end Go.PL

/- TS -/
namespace Go.PL
open Go Go.Proofs
set_option maxRecDepth 10000
set_option maxHeartbeats 4000000
set_option linter.unusedSimpArgs false
set_option linter.unusedVariables false
/-- What a mark's text is. -/
def mTx : Nat → Nat → ByteArray → ByteArray
  | 0, _, out => out
  | f + 1, k, out => if k = 0 then out else mTx f (k / 10) (strB [IntKind.u8.wrap (48 + (k : Int) % 10)] ++ out)
def mT (k : Nat) : ByteArray := if k = 0 then ⟨#[109, 48]⟩ else ⟨#[109]⟩ ++ mTx k k ByteArray.empty
instance (k : Nat) : Con CC 29 [.d (.i k)] (k ≤ 1000000000) (.d (.s (mT k))) := by
  constructor; intro hk
  refine Den.pureI Tryz.func29 rfl 1 [.tmp 2] (by kernel_rfl) rfl rfl (by simp only [initE_nil, initE_cons, Nat.reduceAdd]; exact rfl) ?_
  repeat' first | (with_reducible first | refine nx' ?_ | refine n0 ?_ | refine rD ?_ | refine n1 ?_ | refine nilB_i fun b hb => ?_ | refine nP ?_ ?_ | refine nS fun K hK => ?_ | (refine n2 ?_ ?_ <;> intro h <;> first | subst (h : _ = true) | subst (h : _ = false) | skip) | refine And.intro ?_ ?_ | refine nK ‹Imp _ _› ?_) | exact nl | fail
  · have : k = 0 := by omega
    subst this; rfl
  have k0 : k ≠ 0 := by omega
  refine Wp.loopR (fun x : Nat × Nat × ByteArray => ⟨[(0, .d (.i x.2.1)), (3, .d (.s x.2.2))], []⟩) (fun x => x.2.1) (fun x => mTx x.1 x.2.1 x.2.2 = mTx k k ByteArray.empty ∧ x.2.1 ≤ x.1 ∧ x.2.2.size + x.2.1 ≤ 1000000000) (k, k, ByteArray.empty) Weak.lo ⟨rfl, Nat.le_refl _, by simp only [ByteArray.size_empty]; omega⟩ ?_
  rintro ⟨f, q, out⟩ ⟨hm, hq, hs⟩ K hK
  simp only at hm hq hs ⊢
  by_cases hq0 : q = 0
  · subst hq0
    have hmo : out = mTx k k ByteArray.empty := by rw [← hm]; cases f <;> simp [mTx]
    have s1 : (ByteArray.mk #[109]).size = 1 := rfl
    repeat' first | (with_reducible first | refine nx' ?_ (by simp -implicitDefEqProofs (disch := omega) only [go_sem, s1]; exact rfl) | refine n0 ?_ | refine rD ?_ | refine n1 ?_ | refine nilB_i fun b hb => ?_ | refine nP ?_ ?_ | refine nS fun K hK => ?_ | (refine n2 ?_ ?_ <;> intro h <;> first | subst (h : _ = true) | subst (h : _ = false) | (simp only [FX, LX, s1] at h) | skip) | refine And.intro ?_ ?_ | refine nK ‹Imp _ _› ?_) | exact nl | fail
    rw [mT, if_neg k0, hmo]
  · obtain ⟨f, rfl⟩ : ∃ g, f = g + 1 := ⟨f - 1, by omega⟩
    rw [mTx, if_neg hq0] at hm
    have s1 : (strB [IntKind.u8.wrap (48 + (q : Int) % 10)]).size = 1 := rfl
    repeat' first | (with_reducible first | refine nx' ?_ (by simp -implicitDefEqProofs (disch := omega) only [go_sem, s1]; exact rfl) | refine n0 ?_ | refine rD ?_ | refine n1 ?_ | refine nilB_i fun b hb => ?_ | refine nP ?_ ?_ | refine nS fun K hK => ?_ | (refine n2 ?_ ?_ <;> intro h <;> first | subst (h : _ = true) | subst (h : _ = false) | (simp only [FX, LX, s1] at h) | skip) | refine And.intro ?_ ?_ | refine nK ‹Imp _ _› ?_) | exact nl | fail
    refine ⟨(f, q / 10, strB [IntKind.u8.wrap (48 + (q : Int) % 10)] ++ out), by simp only; omega, ⟨hm, by simp only; omega, by simp only [ByteArray.size_append, s1]; omega⟩, ?_⟩
    simp only [show ((q / 10 : Nat) : Int) = (q : Int) / 10 by omega]
    exact Weak.cu
def mkS (k : Nat) (n : Nat) : List ByteArray := (List.range n).map fun i => mT (k + i)
theorem mkS_len (k n : Nat) : (mkS k n).length = n := by simp [mkS]
theorem mkS_succ (k n : Nat) : mkS k (n + 1) = mkS k n ++ [mT (k + n)] := by simp [mkS, List.range_succ]
theorem mkS_get {k n i : Nat} (h : i < n) : (mkS k n).getD i ByteArray.empty = mT (k + i) := by simp [mkS, List.getD, h]
theorem mkS_set {k : Nat} {es : List ByteArray} {i : Nat} (h : i < es.length) : (mkS k i ++ es.drop i).set i (mT (k + i)) = mkS k (i + 1) ++ es.drop (i + 1) := by
  rw [List.set_append_right _ _ (by rw [mkS_len]; exact Nat.le_refl _), mkS_len, Nat.sub_self, List.drop_eq_getElem_cons h, List.set_cons_zero, mkS_succ]; simp
theorem markStrs_c (os : List Ob) (o n : Nat) (k : Nat) (es : List ByteArray) (ho : o < os.length) (hb : os.all (Ob.bnd os.length) = true) (hn : n ≤ es.length) (hl : es.length ≤ 1048576) (hk : k ≤ 900000000) :
    CC 11 [.msl o 0 n, .d (.i k)] (os.set o (.arr 1 (es.map .s) false)) (.d (.i (k + n : Nat))) (os.set o (.arr 1 ((mkS k n ++ es.drop n).map .s) false)) := by
  have hg : ∀ X, (os.set o X)[o]? = some X := fun X => by rw [List.getElem?_set_self ho]
  have hs : ∀ X Y, (os.set o X).set o Y = os.set o Y := fun X Y => by simp
  refine Den.newG (vs := [.d (.i (k + n : Nat))]) Tryz.func11 rfl 2 os.length [.tmp 4] (by kernel_rfl) rfl rfl (by simp only [initE_nil, initE_cons, Nat.reduceAdd]; exact rfl) rfl (by simp) (by simp) rfl (by rw [List.length_set]; exact all_set' hb rfl) ?_
  repeat' first | (with_reducible first | refine nx' ?_ | refine n0 ?_ | refine rD ?_ | refine n1 ?_ | refine nilB_i fun b hb => ?_ | refine nP ?_ ?_ | refine nS fun K hK => ?_ | (refine n2 ?_ ?_ <;> intro h <;> first | subst (h : _ = true) | subst (h : _ = false) | skip) | refine And.intro ?_ ?_ | refine nK ‹Imp _ _› ?_) | exact nl | fail
  refine Wp.loopR (fun i : Nat => ⟨[(0, .msl o 0 n), (1, .d (.i (k + i : Nat))), (5, .d (.i i))], os.set o (.arr 1 ((mkS k i ++ es.drop i).map .s) false)⟩) (fun i => n - i) (fun i => i ≤ n) 0 (Weak.low (by simp -implicitDefEqProofs (disch := omega) only [go_sem, sub_nil, sub_cons, LX, Int.natCast_zero, Nat.add_zero, show mkS k 0 = [] from rfl]; try ((repeat' refine And.intro ?_ ?_) <;> first | rfl | trivial | (congr 3; omega) | (congr 1; omega)))) (by omega) ?_
  rintro i hi K hK
  have hln : (mkS k i ++ es.drop i).length = es.length := by rw [List.length_append, mkS_len, List.length_drop]; omega
  by_cases h : i < n
  · have hms := mkS_set (k := k) (es := es) (i := i) (by omega)
    repeat' first | (with_reducible first | refine nx' ?_ (by simp -implicitDefEqProofs (disch := omega) only [go_sem, hg, hs, hln, hms]; exact rfl) | refine n0 ?_ | refine rD ?_ | refine n1 ?_ | refine nilB_i fun b hb => ?_ | refine nP ?_ ?_ | refine nS fun K hK => ?_ | (refine n2 ?_ ?_ <;> intro h <;> first | subst (h : _ = true) | subst (h : _ = false) | (simp only [FX, LX, hg, hs, hln, hms] at h) | skip) | refine And.intro ?_ ?_ | refine nK ‹Imp _ _› ?_) | exact nl | fail
    all_goals first
      | exact ⟨i + 1, by omega, by omega, (Weak.low (by simp -implicitDefEqProofs (disch := omega) only [go_sem, sub_nil, sub_cons, LX, show ((k + (i + 1) : Nat) : Int) = ((k + i : Nat) : Int) + 1 by omega]; try ((repeat' refine And.intro ?_ ?_) <;> first | rfl | trivial | (congr 3; omega) | (congr 1; omega))))⟩
      | skip
  · obtain rfl : i = n := by omega
    repeat' first | (with_reducible first | refine nx' ?_ (by simp -implicitDefEqProofs (disch := omega) only [go_sem, hg, hs]; exact rfl) | refine n0 ?_ | refine rD ?_ | refine n1 ?_ | refine nilB_i fun b hb => ?_ | refine nP ?_ ?_ | refine nS fun K hK => ?_ | (refine n2 ?_ ?_ <;> intro h <;> first | subst (h : _ = true) | subst (h : _ = false) | (simp only [FX, LX, hg, hs] at h) | skip) | refine And.intro ?_ ?_ | refine nK ‹Imp _ _› ?_) | exact nl | fail
    exact finG_of [(4, .d (.i (k + i : Nat)))] [] (by rw [List.append_nil]; exact Weak.lo)
instance (l : List ByteArray) (k : Nat) : Con CC 12 [.d (.sl (l.map .s)), .d (.i k)] (l.length ≤ 1048576 ∧ k ≤ 900000000 ∧ l = mkS k l.length) (.d (.i (k + l.length : Nat))) := by
  constructor; intro ⟨hl, h1, he⟩
  refine Den.pureI Tryz.func12 rfl 2 [.tmp 4] (by kernel_rfl) rfl rfl (by simp only [initE_nil, initE_cons, Nat.reduceAdd]; exact rfl) ?_
  repeat' first | (with_reducible first | refine nx' ?_ | refine n0 ?_ | refine Wp.drawR (by decide +kernel) ?_ | refine Wp.drawSR [5, 6] [false, false, false, false, false, true, true] (.op 5 [0,1,2,3] (.op 6 [] .done)) (by decide +kernel) ?_ | refine n1 ?_ | refine nilB_i fun b hb => ?_ | refine nP ?_ ?_ | refine nS fun K hK => ?_ | (refine n2 ?_ ?_ <;> intro h <;> first | subst (h : _ = true) | subst (h : _ = false) | skip) | refine And.intro ?_ ?_ | refine nK ‹Imp _ _› ?_) | exact nl | fail
  refine Wp.loopR (fun i : Nat => ⟨[(0, .d (.sl (l.map .s))), (1, .d (.i (k + i : Nat))), (5, .d (.i i))], []⟩) (fun i => l.length - i) (fun i => i ≤ l.length) 0 (Weak.low (by simp -implicitDefEqProofs (disch := omega) only [go_sem, sub_nil, sub_cons, LX, Int.natCast_zero, Nat.add_zero]; try ((repeat' refine And.intro ?_ ?_) <;> first | rfl | trivial | (congr 3; omega) | (congr 1; omega)))) (by omega) ?_
  rintro i hi K hK
  by_cases h : i < l.length
  · have hg : l.getD i ByteArray.empty = mT (k + i) := by rw [he]; exact mkS_get h
    repeat' first | (with_reducible first | refine nx' ?_ (by simp -implicitDefEqProofs (disch := omega) only [go_sem, hg, tl_beq]; exact rfl) | refine n0 ?_ | refine Wp.drawR (by decide +kernel) ?_ | refine Wp.drawSR [5, 6] [false, false, false, false, false, true, true] (.op 5 [0,1,2,3] (.op 6 [] .done)) (by decide +kernel) ?_ | refine n1 ?_ | refine nilB_i fun b hb => ?_ | refine nP ?_ ?_ | refine nS fun K hK => ?_ | (refine n2 ?_ ?_ <;> intro h <;> first | subst (h : _ = true) | subst (h : _ = false) | (simp only [FX, LX, hg, tl_beq] at h) | skip) | refine And.intro ?_ ?_ | refine nK ‹Imp _ _› ?_) | exact nl | fail
    · exact absurd trivial h
    · exact ⟨i + 1, by omega, by omega, (Weak.low (by simp -implicitDefEqProofs (disch := omega) only [go_sem, sub_nil, sub_cons, LX, show ((k + (i + 1) : Nat) : Int) = ((k + i : Nat) : Int) + 1 by omega]; try ((repeat' refine And.intro ?_ ?_) <;> first | rfl | trivial | (congr 3; omega) | (congr 1; omega))))⟩
  · obtain rfl : i = l.length := by omega
    repeat' first | (with_reducible first | refine nx' ?_ | refine n0 ?_ | refine Wp.drawR (by decide +kernel) ?_ | refine Wp.drawSR [5, 6] [false, false, false, false, false, true, true] (.op 5 [0,1,2,3] (.op 6 [] .done)) (by decide +kernel) ?_ | refine n1 ?_ | refine nilB_i fun b hb => ?_ | refine nP ?_ ?_ | refine nS fun K hK => ?_ | (refine n2 ?_ ?_ <;> intro h <;> first | subst (h : _ = true) | subst (h : _ = false) | skip) | refine And.intro ?_ ?_ | refine nK ‹Imp _ _› ?_) | exact nl | fail
instance (l m : List ByteArray) : Con CC 8 [.d (.sl (l.map .s)), .d (.sl (m.map .s))] (l.length ≤ 1048576 ∧ m.length ≤ 1048576) (.d (.b (decide (l = m)))) := by
  constructor; intro ⟨hl, hm⟩
  refine Den.pureI Tryz.func8 rfl 2 [.tmp 4] (by kernel_rfl) rfl rfl (by simp only [initE_nil, initE_cons, Nat.reduceAdd]; exact rfl) ?_
  repeat' first | (with_reducible first | refine nx' ?_ (by simp -implicitDefEqProofs (disch := omega) only [go_sem, tl_beq]; exact rfl) | refine n0 ?_ | refine rD ?_ | refine n1 ?_ | refine nilB_i fun b hb => ?_ | refine nP ?_ ?_ | refine nS fun K hK => ?_ | (refine n2 ?_ ?_ <;> intro h <;> first | subst (h : _ = true) | subst (h : _ = false) | (simp only [FX, LX, tl_beq] at h) | skip) | refine And.intro ?_ ?_ | refine nK ‹Imp _ _› ?_) | exact nl | fail
  · congr 3; rw [eq_comm, decide_eq_false_iff_not]; rintro rfl; exact h rfl
  refine Wp.loopR (fun i : Nat => ⟨[(0, .d (.sl (l.map .s))), (1, .d (.sl (m.map .s))), (5, .d (.i i))], []⟩) (fun i => l.length - i) (fun i => i ≤ l.length ∧ l.take i = m.take i) 0 Weak.lo ⟨by simp, by simp⟩ ?_
  rintro i ⟨hi, hd⟩ K hK
  repeat' first | (with_reducible first | refine nx' ?_ (by simp -implicitDefEqProofs (disch := omega) only [go_sem, tl_beq]; exact rfl) | refine n0 ?_ | refine rD ?_ | refine n1 ?_ | refine nilB_i fun b hb => ?_ | refine nP ?_ ?_ | refine nS fun K hK => ?_ | (refine n2 ?_ ?_ <;> intro h <;> first | subst (h : _ = true) | subst (h : _ = false) | (simp only [FX, LX, tl_beq] at h) | skip) | refine And.intro ?_ ?_ | refine nK ‹Imp _ _› ?_) | exact nl | fail
  · congr 3; rw [eq_comm, decide_eq_false_iff_not]; exact ne_of_getD (d := ByteArray.empty) (by simpa using h)
  · exact ⟨i + 1, by omega, ⟨by omega, take_eq_succ ByteArray.empty (by omega) (by omega) hd (by simpa using h)⟩, Weak.lo⟩
  · congr 3; rw [eq_comm, decide_eq_true_eq]; exact take_all (by omega) (by omega) hd
theorem markSNil_c (k : Nat) (hk : k ≤ 900000000) : CC 11 [.d (.sl (([] : List ByteArray).map .s)), .d (.i k)] [] (.d (.i k)) [] := by
  simp only [List.map_nil]
  refine Den.pureI Tryz.func11 rfl 2 [.tmp 4] (by kernel_rfl) rfl rfl (by simp only [initE_nil, initE_cons, Nat.reduceAdd]; exact rfl) ?_
  repeat' first | (with_reducible first | refine nx' ?_ | refine n0 ?_ | refine rD ?_ | refine n1 ?_ | refine nilB_i fun b hb => ?_ | refine nP ?_ ?_ | refine nS fun K hK => ?_ | (refine n2 ?_ ?_ <;> intro h <;> first | subst (h : _ = true) | subst (h : _ = false) | skip) | refine And.intro ?_ ?_ | refine nK ‹Imp _ _› ?_) | exact nl | fail
  refine Wp.loopR (fun _ : Nat => ⟨[(0, .d (.sl [])), (1, .d (.i k)), (5, .d (.i 0))], []⟩) (fun i => i) (fun _ => True) 0 Weak.lo trivial ?_
  rintro i _ K hK
  repeat' first | (with_reducible first | refine nx' ?_ | refine n0 ?_ | refine rD ?_ | refine n1 ?_ | refine nilB_i fun b hb => ?_ | refine nP ?_ ?_ | refine nS fun K hK => ?_ | (refine n2 ?_ ?_ <;> intro h <;> first | subst (h : _ = true) | subst (h : _ = false) | skip) | refine And.intro ?_ ?_ | refine nK ‹Imp _ _› ?_) | exact nl | fail
end Go.PL

/- AKJ -/
namespace Go.PL
open Go Go.Proofs
set_option maxRecDepth 10000
set_option maxHeartbeats 4000000
set_option linter.unusedSimpArgs false
set_option linter.unusedVariables false
theorem joinB_zero {sep : ByteArray} : joinB [] sep = ⟨#[]⟩ := rfl
theorem joinB_first {ws : List ByteArray} {sep : ByteArray} (h : 0 < ws.length) : joinB (ws.take (0 + 1)) sep = joinB [] sep ++ ws.getD 0 ByteArray.empty := by
  match ws, h with
  | w :: r, _ =>
    apply ByteArray.ext
    rw [ByteArray.data_append]
    simp [joinB, Lib.join_one, Lib.join_nil]
theorem joinB_succ {ws : List ByteArray} {sep : ByteArray} {i : Nat} (h0 : 0 < i) (h : i < ws.length) : joinB (ws.take (i + 1)) sep = joinB (ws.take i) sep ++ sep ++ ws.getD i ByteArray.empty := by
  match ws, i, h0, h with
  | w :: r, k + 1, _, h =>
    have hk : k < r.length := by simpa using h
    have e : (r.map (·.data.toList))[k]? = some (r.getD k ByteArray.empty).data.toList := by
      rw [List.getElem?_map, List.getElem?_eq_getElem hk, List.getD, List.getElem?_eq_getElem hk]; rfl
    apply ByteArray.ext
    rw [ByteArray.data_append, ByteArray.data_append]
    simp only [joinB, List.take_succ_cons, List.map_cons, Lib.join_cons, List.map_take, List.getD_cons_succ]
    rw [Lib.joinTail_take_succ _ _ _ _ e]
    simp
/-- The bytes of words, each with one that comes between. -/
def szJ (ws : List ByteArray) (sep : ByteArray) : Nat := sep.size * ws.length + Lib.lens (ws.map (·.data.toList))
theorem lens_cons (x : List UInt8) (r : List (List UInt8)) : Lib.lens (x :: r) = x.length + Lib.lens r := by simp [Lib.lens]
theorem joinB_size (ws : List ByteArray) (sep : ByteArray) : (joinB ws sep).size ≤ szJ ws sep := by
  have key : (Lib.join (ws.map (·.data.toList)) sep.data.toList).length ≤ szJ ws sep := by
    match ws with
    | [] => simp [Lib.join_nil]
    | w :: r =>
      have e := Lib.joinTail_length sep.data.toList (r.map (·.data.toList))
      have e2 : sep.data.toList.length = sep.size := rfl
      have e3 : (r.map (·.data.toList)).length = r.length := List.length_map ..
      have e4 : sep.size * (w :: r).length = sep.size * r.length + sep.size := Nat.mul_succ _ _
      rw [List.map_cons, Lib.join_cons, List.length_append, e, e2, e3]
      unfold szJ
      rw [List.map_cons, lens_cons, e4]
      omega
  simpa [joinB, ByteArray.size] using key
theorem szJ_take (ws : List ByteArray) (sep : ByteArray) (k : Nat) : szJ (ws.take k) sep ≤ szJ ws sep := by
  unfold szJ
  have h1 := Lib.lens_take_le (ws.map (·.data.toList)) k
  have h2 : (ws.take k).length ≤ ws.length := by rw [List.length_take]; omega
  have h3 := Nat.mul_le_mul_left sep.size h2
  rw [List.map_take]
  omega
theorem szJ_le {ws : List ByteArray} {sep : ByteArray} {b : Nat} (h : ∀ w ∈ ws, w.size ≤ b) : szJ ws sep ≤ (sep.size + b) * ws.length := by
  have key : Lib.lens (ws.map (·.data.toList)) ≤ b * ws.length := by
    induction ws with
    | nil => simp [Lib.lens]
    | cons w r ih =>
      have h1 : w.data.toList.length ≤ b := h w (by simp)
      have h2 := ih fun x hx => h x (by simp [hx])
      rw [List.map_cons, lens_cons, List.length_cons, Nat.mul_succ]
      omega
  unfold szJ
  rw [Nat.add_mul]
  omega
theorem joinB_len (ws : List ByteArray) (sep : ByteArray) : (Lib.join (ws.map (·.data.toList)) sep.data.toList).length = (joinB ws sep).size := by simp [joinB, ByteArray.size]
instance (ws : List ByteArray) (s : ByteArray) : Con CC 79 [.d (.sl (ws.map .s)), .d (.s s)] (ws.length ≤ 1048576 ∧ szJ ws s ≤ 140737488355328) (.d (.s (joinB ws s))) :=
  ⟨fun h => Den.ext ⟨rfl, rfl, .inr (.inr (.inl ⟨rfl, ws, s, h.1, by rw [joinB_len]; exact Nat.le_trans (joinB_size ..) h.2, rfl, rfl⟩))⟩⟩
instance (ws : List ByteArray) (s : ByteArray) : Con CC 68 [.d (.sl (ws.map .s)), .d (.s s)] (ws.length ≤ 1048576 ∧ szJ ws s ≤ 140737488355328) (.d (.s (joinB ws s))) := by
  constructor; intro ⟨hl, hs⟩
  refine Den.pureI Tryz.func68 rfl 2 [.tmp 4] (by kernel_rfl) rfl rfl (by simp only [initE_nil, initE_cons, Nat.reduceAdd]; exact rfl) ?_
  repeat' first | (with_reducible first | refine nx' ?_ | refine n0 ?_ | refine rD ?_ | refine n1 ?_ | refine nilB_i fun b hb => ?_ | refine nP ?_ ?_ | refine nS fun K hK => ?_ | (refine n2 ?_ ?_ <;> intro h <;> first | subst (h : _ = true) | subst (h : _ = false) | skip) | refine And.intro ?_ ?_ | refine nK ‹Imp _ _› ?_) | exact nl | fail
  refine Wp.loopR (fun i : Nat => ⟨[(0, .d (.sl (ws.map .s))), (1, .d (.s s)), (5, .d (.s (joinB (ws.take i) s))), (6, .d (.i i))], []⟩) (fun i => ws.length - i) (fun i => i ≤ ws.length) 0 (Weak.low (by simp -implicitDefEqProofs (disch := omega) only [go_sem, sub_nil, sub_cons, LX, joinB_zero, List.take_zero]; try ((repeat' refine And.intro ?_ ?_) <;> first | rfl | trivial | (congr 3; omega) | (congr 1; omega)))) (by simp) ?_
  rintro i hi K hK
  by_cases hil : i < ws.length
  · by_cases h0 : 0 < i
    · have e := joinB_succ (sep := s) h0 hil
      have h1 := Nat.le_trans (joinB_size _ _) (szJ_take ws s (i + 1))
      rw [e, ByteArray.size_append, ByteArray.size_append] at h1
      repeat' first | (with_reducible first | refine nx' ?_ (by simp -implicitDefEqProofs (disch := omega) only [go_sem, ByteArray.size_append]; exact rfl) | refine n0 ?_ | refine rD ?_ | refine n1 ?_ | refine nilB_i fun b hb => ?_ | refine nP ?_ ?_ | refine nS fun K hK => ?_ | (refine n2 ?_ ?_ <;> intro h <;> first | subst (h : _ = true) | subst (h : _ = false) | (simp only [FX, LX, ByteArray.size_append] at h) | skip) | refine And.intro ?_ ?_ | refine nK ‹Imp _ _› ?_) | exact nl | fail
      exact ⟨i + 1, by omega, by omega, (Weak.low (by simp -implicitDefEqProofs (disch := omega) only [go_sem, sub_nil, sub_cons, LX, e]; try ((repeat' refine And.intro ?_ ?_) <;> first | rfl | trivial | (congr 3; omega) | (congr 1; omega))))⟩
    · obtain rfl : i = 0 := by omega
      have e := joinB_first (sep := s) hil
      have h1 := Nat.le_trans (joinB_size _ _) (szJ_take ws s (0 + 1))
      rw [e, ByteArray.size_append] at h1
      repeat' first | (with_reducible first | refine nx' ?_ (by simp -implicitDefEqProofs (disch := omega) only [go_sem, ByteArray.size_append]; exact rfl) | refine n0 ?_ | refine rD ?_ | refine n1 ?_ | refine nilB_i fun b hb => ?_ | refine nP ?_ ?_ | refine nS fun K hK => ?_ | (refine n2 ?_ ?_ <;> intro h <;> first | subst (h : _ = true) | subst (h : _ = false) | (simp only [FX, LX, ByteArray.size_append] at h) | skip) | refine And.intro ?_ ?_ | refine nK ‹Imp _ _› ?_) | exact nl | fail
      exact ⟨0 + 1, by omega, by omega, (Weak.low (by simp -implicitDefEqProofs (disch := omega) only [go_sem, sub_nil, sub_cons, LX, e]; try ((repeat' refine And.intro ?_ ?_) <;> first | rfl | trivial | (congr 3; omega) | (congr 1; omega))))⟩
  · repeat' first | (with_reducible first | refine nx' ?_ | refine n0 ?_ | refine rD ?_ | refine n1 ?_ | refine nilB_i fun b hb => ?_ | refine nP ?_ ?_ | refine nS fun K hK => ?_ | (refine n2 ?_ ?_ <;> intro h <;> first | subst (h : _ = true) | subst (h : _ = false) | skip) | refine And.intro ?_ ?_ | refine nK ‹Imp _ _› ?_) | exact nl | fail
    obtain rfl : i = ws.length := by omega
    rw [List.take_length]
end Go.PL
