/- A plain machine, sound for the given model, and contracts of functions over it, part 2: PlOps4 PlOps5 PlOps6 PlOps7 PlOps8 PlOps9 PlOpsA PlOpsB PlTree PlTree2 PlTree3 PlSound. Nothing is assumed. -/
import Derived.Test.YtfdjgoapdkpbaaaG01
import Derived.Laws.StructEq
import Derived.Laws.BytesArg
set_option linter.unusedSimpArgs false
set_option linter.unusedVariables false
set_option linter.unusedSectionVars false
/- PlOps4 -/
namespace Go.PL
open Go

def binK0 (k : TK) (op : BinOp) (x y : V) (K : V → Prop) : Prop :=
  match op, x, y with
  | .quo, .d (.val (.int k a)), .d (.val (.int k' b)) => k = k' ∧ b ≠ 0 ∧ K (.d (.val (.int k (k.wrap (a.tdiv b)))))
  | .rem, .d (.val (.int k a)), .d (.val (.int k' b)) => k = k' ∧ b ≠ 0 ∧ K (.d (.val (.int k (a.tmod b))))
  | op, .d (.val (.int k a)), .d (.val (.int k' b)) => k = k' ∧ (match arith op k a b with | some v => K (.d (.val v)) | none => False)
  | .add, .d (.val (.string a)), .d (.val (.string b)) => a.size + b.size ≤ 9223372036854775807 ∧ K (.d (.val (.string (a ++ b))))
  | op, .d (.val (.string a)), .d (.val (.string b)) => (match strOp op a b with | some v => K (.d (.val v)) | none => False)
  | .eql, .d (.val (.bool a)), .d (.val (.bool b)) => k.isBool = true ∧ K (.d (.val (.bool (a == b))))
  | .neq, .d (.val (.bool a)), .d (.val (.bool b)) => k.isBool = true ∧ K (.d (.val (.bool !(a == b))))
  | .eql, .d (.val (.slice none 0 0)), .d (.val (.slice none 0 0)) => k.isSl = true ∧ K (.d (.val (.bool true)))
  | .neq, .d (.val (.slice none 0 0)), .d (.val (.slice none 0 0)) => k.isSl = true ∧ K (.d (.val (.bool false)))
  | .eql, .d (.sl es), .d (.val (.slice none 0 0)) => k.isSl = true ∧ 0 < es.length ∧ K (.d (.val (.bool false)))
  | .neq, .d (.sl es), .d (.val (.slice none 0 0)) => k.isSl = true ∧ 0 < es.length ∧ K (.d (.val (.bool true)))
  | .eql, .msl _ _ len, .d (.val (.slice none 0 0)) => k.isSl = true ∧ 0 < len ∧ K (.d (.val (.bool false)))
  | .neq, .msl _ _ len, .d (.val (.slice none 0 0)) => k.isSl = true ∧ 0 < len ∧ K (.d (.val (.bool true)))
  | .eql, .d (.agg as), .d (.agg bs) => optK (eqsK k as bs) fun b => K (.d (.val (.bool b)))
  | .neq, .d (.agg as), .d (.agg bs) => optK (eqsK k as bs) fun b => K (.d (.val (.bool !b)))
  | _, _, _ => False


theorem eqneK_cases {op : BinOp} {t : Bool} {K : V → Prop} (h : eqneK op t K) : (op = .eql ∧ K (.d (.val (.bool t)))) ∨ (op = .neq ∧ K (.d (.val (.bool !t)))) := by
  cases op <;> simp only [eqneK] at h <;> first | exact .inl ⟨rfl, h⟩ | exact .inr ⟨rfl, h⟩ | exact h.elim

theorem nilV_eq {y : V} (h : nilV y = true) : y = .d (.val (.slice none 0 0)) := by
  unfold nilV at h
  split at h
  · rfl
  · cases h

theorem binK_old {k : TK} {op : BinOp} {x y : V} {K : V → Prop} (h : binK k op x y K) : binK0 k op x y K := by
  unfold binK at h
  split at h
  · split at h
    · rename_i as _ bs
      cases hq : eqsK k as bs with
      | none => rw [hq] at h; exact h.elim
      | some b =>
        rw [hq] at h
        rcases eqneK_cases h with ⟨rfl, h3⟩ | ⟨rfl, h3⟩
        · show optK (eqsK k as bs) _
          rw [hq]; exact h3
        · show optK (eqsK k as bs) _
          rw [hq]; exact h3
    · exact h.elim
  · split at h
    · obtain ⟨rfl, h⟩ := h
      cases op <;> first | exact ⟨rfl, h⟩ | exact ⟨rfl, h.1, h.2⟩
    · exact h.elim
  · split at h
    · cases op <;> first | exact h | exact ⟨h.1, h.2⟩
    · exact h.elim
  · split at h
    · obtain ⟨h1, h2⟩ := h
      rcases eqneK_cases h2 with ⟨rfl, h3⟩ | ⟨rfl, h3⟩ <;> exact ⟨h1, h3⟩
    · exact h.elim
  · obtain ⟨h0, h1, h2⟩ := h
    rw [nilV_eq h0]
    rcases eqneK_cases h2 with ⟨rfl, h3⟩ | ⟨rfl, h3⟩ <;> exact ⟨h1, h3⟩
  · obtain ⟨h0, h1, h4, h2⟩ := h
    rw [nilV_eq h0]
    rcases eqneK_cases h2 with ⟨rfl, h3⟩ | ⟨rfl, h3⟩ <;> exact ⟨h1, h4, h3⟩
  · obtain ⟨h0, h1, h4, h2⟩ := h
    rw [nilV_eq h0]
    rcases eqneK_cases h2 with ⟨rfl, h3⟩ | ⟨rfl, h3⟩ <;> exact ⟨h1, h4, h3⟩
  · exact h.elim

section
variable {P : Program} {T : Tab} [TOk T P] {nF : Nat} {w : World} {Pr : Pro} {p : Place} {st : St} {a : Act} {K : V → St → Prop}
variable {dst : Option Tmp} {type : TypeId} {pos : String} {after : Array Edge} {guard : Option (Nat × Bool)}

theorem out_nilCheck (hM : Mem w Pr p st.os) (hE : EnvR w Pr p st.os a.tmps st.env) {x : Operand} (h : opK T nF st (.nilCheck x) K) :
    Out nF w Pr p st a.tmps K ((execOp a.eval ⟨dst, .nilCheck x, type, pos, after, guard⟩).run P w) := by
  simp only [opK] at h
  have hx := evalR hE x
  generalize hax : a.eval x = av at hx
  split at h
  · rename_i o i j he
    rw [he] at hx
    cases hx with
    | ref ho hh => exact .pure hM hE h (by simp [execOp, hax]) (.ref ho hh)
  · rename_i cs he
    rw [he] at hx
    cases hx with
    | d hd =>
      have hd' := hd
      cases hd with
      | ptr => exact .pure hM hE h (by simp [execOp, hax]) (.d hd')
  · rename_i f x1 x2 he
    rw [he] at hx
    have hx' := hx
    cases hx with
    | fn => exact .pure hM hE h (by simp [execOp, hax]) hx'
  · rename_i f x1 x2 he
    rw [he] at hx
    have hx' := hx
    cases hx with
    | d hd => cases hd with
      | fn => exact .pure hM hE h (by simp [execOp, hax]) hx'
  · exact h.elim

theorem arith_run {op : BinOp} {t : TypeId} {k : IntKind} {m n : Int} {v : Value} (h : arith op k m n = some v) : (binOp op t (.int k m) (.int k n)).run P w = .ok v w := by
  cases op <;> simp only [arith, Option.some.injEq] at h <;> first | (cases h; done) | (subst h; simp [binOp, Op.intArith, Op.intCmp])

theorem guard_none {op : BinOp} {t : TypeId} {x y : Operand} {u v : Value} (h1 : u ≠ .nilIface) (h2 : ∀ cs, u ≠ .agg cs) : (eqGuard op t x y u v).run P w = .ok () w := by
  unfold eqGuard
  cases op <;> simp <;> cases u <;> first | rfl | exact absurd rfl h1 | exact absurd rfl (h2 _)

theorem out_bin_of (hM : Mem w Pr p st.os) (hE : EnvR w Pr p st.os a.tmps st.env) {op : BinOp} {t yt : TypeId} {x y : Operand} {v : Value} {d : D}
    (h1 : a.eval x ≠ .nilIface) (h2 : ∀ cs, a.eval x ≠ .agg cs) (hr : (binOp op t (a.eval x) (a.eval y)).run P w = .ok v w) (hv : RelD w Pr d v) (hK : K (.d d) st) :
    Out nF w Pr p st a.tmps K ((execOp a.eval ⟨dst, .binOp op t x y yt, type, pos, after, guard⟩).run P w) :=
  .pure hM hE hK (by simp [execOp, guard_none (P := P) (w := w) (op := op) (t := t) (x := x) (y := y) h1 h2, hr]) (.d hv)

theorem strOp_run {op : BinOp} {t : TypeId} {m n : ByteArray} {v : Value} (h : strOp op m n = some v) : (binOp op t (.string m) (.string n)).run P w = .ok v w := by
  cases op <;> simp only [strOp, Option.some.injEq] at h <;> first | (cases h; done) | (subst h; simp [binOp, Op.stringOp])

theorem len_pos_some {A : Option Addr} {len : Nat} (hn : len = 0 ∨ A.isSome = true) (h : 0 < len) : ∃ x, A = some x := by
  rcases hn with h1 | h1
  · omega
  · exact Option.isSome_iff_exists.1 h1

theorem TK.sl_under {t : TypeId} (h : (tk T t).isSl = true) : ∃ e, P.underlying t = some (.slice e) := by
  generalize hk : tk T t = k at h
  cases k <;> first | (simp [TK.isSl] at h; done) | skip
  rename_i e
  obtain ⟨n, u, _, h2, h3⟩ := tk_spec hk (by simp)
  exact ⟨e, by rw [h2, TK.of_sl h3]⟩

theorem TK.of_bool {u : TypeDesc} (h : TK.of P u = some .bool) : u = .bool := by
  cases u <;> simp [TK.of] at h
  · rfl

theorem TK.bool_under {t : TypeId} (h : (tk T t).isBool = true) : P.underlying t = some .bool := by
  generalize hk : tk T t = k at h
  cases k <;> first | (simp [TK.isBool] at h; done) | skip
  obtain ⟨n, u, _, h2, h3⟩ := tk_spec hk (by simp)
  rw [h2, TK.of_bool h3]

theorem equal_bool {t : TypeId} (hu : P.underlying t = some .bool) (x y : Bool) : (Op.equal t (.bool x) (.bool y)).run P w = .ok (x == y) w := by
  have key : ∀ d, (Op.equalIn (d + 1) t (.bool x) (.bool y)).run P w = .ok (x == y) w := by
    intro d
    simp [Op.equalIn, run_underlying hu]
  exact key 9999

theorem equal_slice_nil {t e : TypeId} (hu : P.underlying t = some (.slice e)) (ad : Option Addr) (len cap : Nat) : (Op.equal t (.slice ad len cap) (.slice none 0 0)).run P w = .ok ad.isNone w := by
  have key : ∀ d, (Op.equalIn (d + 1) t (.slice ad len cap) (.slice none 0 0)).run P w = .ok ad.isNone w := by
    intro d
    cases ad <;> simp [Op.equalIn, run_underlying hu]
  exact key 9999

theorem out_nilT (hM : Mem w Pr p st.os) (hE : EnvR w Pr p st.os a.tmps st.env) {op : BinOp} {t yt : TypeId} {x y : Operand} (h : nilT (tk T t) op (ev st.env x) (ev st.env y) fun v => K v st) :
    Out nF w Pr p st a.tmps K ((execOp a.eval ⟨dst, .binOp op t x y yt, type, pos, after, guard⟩).run P w) := by
  obtain ⟨n, h1, h2, h3, h4⟩ := h
  have hx := evalR hE x
  have hy := evalR hE y
  rw [nilV_eq h2] at hy
  have hy := hy.val
  obtain ⟨ad, len, cap, e1, e2⟩ : ∃ ad len cap, a.eval x = .slice ad len cap ∧ (0 < n → ad.isNone = false) := by
    generalize hax : a.eval x = av at hx
    generalize ev st.env x = v at h1 hx
    unfold slLen at h1
    split at h1
    · cases h1
      cases hx with
      | d hd =>
        cases hd with
        | nil A cap => exact ⟨A, 0, cap, rfl, fun h => by simp at h⟩
        | sl es b off cap sz vs => exact ⟨_, _, cap, rfl, fun _ => rfl⟩
    · cases h1
      cases hx with
      | @msl _ _ _ A cap ho hc hn hh =>
        refine ⟨A, _, cap, rfl, fun h => ?_⟩
        obtain ⟨z, rfl⟩ := len_pos_some hn h
        rfl
    · cases h1
  obtain ⟨e, hu⟩ := TK.sl_under h3
  rcases eqneK_cases (h4 ad.isNone e2) with ⟨rfl, h5⟩ | ⟨rfl, h5⟩
  · exact out_bin_of hM hE (by simp [e1]) (by simp [e1]) (by rw [e1, hy]; simp [binOp, equal_slice_nil (P := P) (w := w) hu]) (.val _) h5
  · exact out_bin_of hM hE (by simp [e1]) (by simp [e1]) (by rw [e1, hy]; simp [binOp, equal_slice_nil (P := P) (w := w) hu]) (.val _) h5

theorem tkE_isSl {t : TypeId} (h : (tkE T t).isSl = true) : (tk T t).isSl = true := by
  unfold tkE at h
  split at h
  · cases h
  · exact h
theorem tkE_isBool {t : TypeId} (h : (tkE T t).isBool = true) : (tk T t).isBool = true := by
  unfold tkE at h
  split at h
  · cases h
  · exact h
theorem part_one {t : TypeId} {u : TypeDesc} (hu : P.underlying t = some u) (hg : isAggD u = false) {cs : Array Value} {off : Nat} {v : Value} (hv : cs[off]? = some v) : (part t cs off).run P w = .ok v w := by
  cases u <;> first | (simp [isAggD] at hg; done) | simp [part, isAgg, run_underlying hu, hv]
theorem eqFields_run {as bs : List D} {xs ys : Array Value} (hx : xs.size = as.length) (hy : ys.size = bs.length) (rx : ∀ i (hi : i < as.length), RelD w Pr as[i] (xs[i]'(by omega))) (ry : ∀ i (hi : i < bs.length), RelD w Pr bs[i] (ys[i]'(by omega))) :
    ∀ (l : List EK) (fs : List Field) (o : Nat) (b : Bool), okF P o fs l → eqL l (as.drop o) (bs.drop o) = some b → (Op.eqFields 9999 xs ys fs).run P w = .ok b w := by
  have cell : ∀ {cs : List D} {zs : Array Value} {o : Nat} {v : Value} {r : List D}, zs.size = cs.length → (∀ i (hi : i < cs.length) (hz : i < zs.size), RelD w Pr cs[i] zs[i]) → cs.drop o = .val v :: r → zs[o]? = some v ∧ cs.drop (o + 1) = r := by
    intro cs zs o v r hz hr hd
    have ho : o < cs.length := by
      have := congrArg List.length hd
      simp at this; omega
    rw [List.drop_eq_getElem_cons ho] at hd
    injection hd with h1 h2
    have h3 := hr o ho (by omega)
    rw [h1] at h3
    refine ⟨?_, h2⟩
    rw [Array.getElem?_eq_getElem (by omega)]
    generalize zs[o]'(by omega) = z at h3
    cases h3; rfl
  have rx' : ∀ i (hi : i < as.length) (hz : i < xs.size), RelD w Pr as[i] xs[i] := fun i hi _ => rx i hi
  have ry' : ∀ i (hi : i < bs.length) (hz : i < ys.size), RelD w Pr bs[i] ys[i] := fun i hi _ => ry i hi
  intro l
  induction l with
  | nil =>
    intro fs o b hf he
    cases fs with
    | nil =>
      generalize as.drop o = A at he
      generalize bs.drop o = B at he
      cases A <;> cases B <;> simp [eqL] at he
      subst he
      simp [Op.eqFields]
    | cons => exact hf.elim
  | cons k l ih =>
    intro fs o b hf he
    cases fs with
    | nil => exact hf.elim
    | cons f fs =>
      obtain ⟨h1, rfl, h3, h4⟩ := hf
      generalize hA : as.drop f.offset = A at he
      generalize hB : bs.drop f.offset = B at he
      unfold eqL at he
      split at he
      · rename_i e; cases e
      · rename_i q a as' q' c bs' e
        cases e
        obtain ⟨x1, x2⟩ := cell hx rx' hA
        obtain ⟨y1, y2⟩ := cell hy ry' hB
        split at he
        · rename_i hq
          subst hq
          obtain ⟨r, hr, rfl⟩ := Option.map_eq_some_iff.1 he
          have := ih fs (f.offset + 1) r h4 (by rw [x2, y2]; exact hr)
          rw [Op.eqFields, if_pos h1]
          simp only [Sem.run_bind, part_one (P := P) (w := w) h3 rfl x1, part_one (P := P) (w := w) h3 rfl y1, Result.andThen_ok, run_equalIn_int (P := P) w 9998 f.type q _ a c h3]
          cases hac : (a == c) <;> simp [this]
        · cases he
      · rename_i a as' c bs' e
        cases e
        obtain ⟨x1, x2⟩ := cell hx rx' hA
        obtain ⟨y1, y2⟩ := cell hy ry' hB
        obtain ⟨r, hr, rfl⟩ := Option.map_eq_some_iff.1 he
        have := ih fs (f.offset + 1) r h4 (by rw [x2, y2]; exact hr)
        rw [Op.eqFields, if_pos h1]
        simp only [Sem.run_bind, part_one (P := P) (w := w) h3 rfl x1, part_one (P := P) (w := w) h3 rfl y1, Result.andThen_ok, run_equalIn_bool' (P := P) w 9998 f.type a c h3]
        cases hac : (a == c) <;> simp [this]
      · rename_i a as' c bs' e
        cases e
        obtain ⟨x1, x2⟩ := cell hx rx' hA
        obtain ⟨y1, y2⟩ := cell hy ry' hB
        obtain ⟨r, hr, rfl⟩ := Option.map_eq_some_iff.1 he
        have := ih fs (f.offset + 1) r h4 (by rw [x2, y2]; exact hr)
        rw [Op.eqFields, if_pos h1]
        simp only [Sem.run_bind, part_one (P := P) (w := w) h3 rfl x1, part_one (P := P) (w := w) h3 rfl y1, Result.andThen_ok, run_equalIn_string (P := P) w 9998 f.type a c h3]
        cases hac : (a.toList == c.toList) <;> simp [this]
      · cases he
theorem equal_agg {t : TypeId} {l : List EK} (ht : EqOk P t l) {as bs : List D} {u v : Value} (hx : RelD w Pr (.agg as) u) (hy : RelD w Pr (.agg bs) v) {b : Bool} (he : eqL l as bs = some b) :
    ∃ xs ys, u = .agg xs ∧ v = .agg ys ∧ (Op.equalIn 10000 t (.agg xs) (.agg ys)).run P w = .ok b w := by
  obtain ⟨fs, h1, h2, _, h4⟩ := ht
  cases hx with
  | agg _ xs hs hr =>
    cases hy with
    | agg _ ys hs' hr' =>
      have hf : P.fieldsOf t = fs := by unfold Program.fieldsOf; rw [h1]
      refine ⟨xs, ys, rfl, rfl, ?_⟩
      rw [run_equalIn_struct w 9999 t xs ys (by rw [hf]; exact h1) h2, hf]
      exact eqFields_run hs hs' hr hr' l fs.toList 0 b h4 (by simpa using he)
theorem out_eqs (hM : Mem w Pr p st.os) (hE : EnvR w Pr p st.os a.tmps st.env) {op : BinOp} {t yt : TypeId} {x y : Operand} {as bs : List D} {b c : Bool} (e1 : ev st.env x = .d (.agg as)) (e2 : ev st.env y = .d (.agg bs)) (hq : eqsK (tkE T t) as bs = some b)
    (hop : (op = .eql ∧ c = b) ∨ (op = .neq ∧ c = !b)) (hK : K (.d (.val (.bool c))) st) :
    Out nF w Pr p st a.tmps K ((execOp a.eval ⟨dst, .binOp op t x y yt, type, pos, after, guard⟩).run P w) := by
  have hx := evalR hE x
  have hy := evalR hE y
  rw [e1] at hx; rw [e2] at hy
  obtain ⟨l, hl, he⟩ : ∃ l, EqOk P t l ∧ eqL l as bs = some b := by
    unfold tkE at hq
    split at hq
    · rename_i l hl
      exact ⟨l, TOk.eq t l hl, hq⟩
    · rename_i hn
      unfold tk at hq
      split at hq
      · rename_i i hi
        obtain ⟨n, u, z, k, _, _, _, h4, h5, _⟩ := ti_spec hi
        subst h5
        simp only at hq
        cases u <;> simp [TK.of] at h4 <;> first | (subst h4; cases hq) | (obtain ⟨_, _, rfl⟩ := h4; cases hq)
      · cases hq
  generalize hax : a.eval x = u at hx
  generalize hay : a.eval y = v at hy
  cases hx with
  | d hx => cases hy with
    | d hy =>
      obtain ⟨xs, ys, rfl, rfl, hr⟩ := equal_agg hl hx hy he
      have hg := run_eqGuard_agg (P := P) w op t x y xs ys hl.choose_spec.2.2.1
      rcases hop with ⟨rfl, rfl⟩ | ⟨rfl, rfl⟩
      · exact .pure hM hE hK (u := .bool _) (by simp [execOp, hax, hay, hg, run_eql_struct, hr]) (.d (.val _))
      · exact .pure hM hE hK (u := .bool !b) (by simp [execOp, hax, hay, hg, run_neq_struct, hr]) (.d (.val _))

theorem out_binOp (hM : Mem w Pr p st.os) (hE : EnvR w Pr p st.os a.tmps st.env) {op : BinOp} {t yt : TypeId} {x y : Operand} (h : opK T nF st (.binOp op t x y yt) K) :
    Out nF w Pr p st a.tmps K ((execOp a.eval ⟨dst, .binOp op t x y yt, type, pos, after, guard⟩).run P w) := by
  simp only [opK] at h
  have hx := evalR hE x
  have hy := evalR hE y
  have eqs : ∀ {op : BinOp} {ad : Option Addr} {len cap : Nat}, (tk T t).isSl = true → a.eval x = .slice ad len cap → a.eval y = .slice none 0 0 →
      (op = .eql → (binOp op t (a.eval x) (a.eval y)).run P w = .ok (.bool ad.isNone) w) ∧ (op = .neq → (binOp op t (a.eval x) (a.eval y)).run P w = .ok (.bool !ad.isNone) w) := by
    intro op ad len cap h1 h2 h3
    obtain ⟨e, hu⟩ := TK.sl_under h1
    rw [h2, h3]
    exact ⟨fun e => by subst e; simp [binOp, equal_slice_nil (P := P) (w := w) hu], fun e => by subst e; simp [binOp, equal_slice_nil (P := P) (w := w) hu]⟩
  replace h := binK_old h
  unfold binK0 at h
  split at h
  · rename_i k m k' n e1 e2
    obtain ⟨rfl, h1, h2⟩ := h
    rw [e1] at hx; rw [e2] at hy
    have hx := hx.val; have hy := hy.val
    exact out_bin_of hM hE (by simp [hx]) (by simp [hx]) (by simp [hx, hy, binOp, Op.intDiv, h1]) (.val _) h2
  · rename_i k m k' n e1 e2
    obtain ⟨rfl, h1, h2⟩ := h
    rw [e1] at hx; rw [e2] at hy
    have hx := hx.val; have hy := hy.val
    exact out_bin_of hM hE (by simp [hx]) (by simp [hx]) (by simp [hx, hy, binOp, Op.intDiv, h1]) (.val _) h2
  · rename_i k m k' n _ _ e1 e2
    obtain ⟨rfl, h1⟩ := h
    rw [e1] at hx; rw [e2] at hy
    have hx := hx.val; have hy := hy.val
    split at h1
    · rename_i v hv
      exact out_bin_of hM hE (by simp [hx]) (by simp [hx]) (by rw [hx, hy]; exact arith_run hv) (.val _) h1
    · exact h1.elim
  · rename_i m n e1 e2
    obtain ⟨h1, h2⟩ := h
    rw [e1] at hx; rw [e2] at hy
    have hx := hx.val; have hy := hy.val
    exact out_bin_of hM hE (by simp [hx]) (by simp [hx]) (by rw [hx, hy]; exact run_string_add_sum (P := P) w m n h1) (.val _) h2
  · rename_i m n _ e1 e2
    rw [e1] at hx; rw [e2] at hy
    have hx := hx.val; have hy := hy.val
    split at h
    · rename_i v hv
      exact out_bin_of hM hE (by simp [hx]) (by simp [hx]) (by rw [hx, hy]; exact strOp_run hv) (.val _) h
    · exact h.elim
  · rename_i m n e1 e2
    obtain ⟨h1, h2⟩ := h
    rw [e1] at hx; rw [e2] at hy
    have hx := hx.val; have hy := hy.val
    exact out_bin_of hM hE (by simp [hx]) (by simp [hx]) (by rw [hx, hy]; simp [binOp, equal_bool (P := P) (w := w) (TK.bool_under (tkE_isBool h1))]) (.val _) h2
  · rename_i m n e1 e2
    obtain ⟨h1, h2⟩ := h
    rw [e1] at hx; rw [e2] at hy
    have hx := hx.val; have hy := hy.val
    exact out_bin_of hM hE (by simp [hx]) (by simp [hx]) (by rw [hx, hy]; simp [binOp, equal_bool (P := P) (w := w) (TK.bool_under (tkE_isBool h1))]) (.val _) h2
  · rename_i e1 e2
    obtain ⟨h1, h2⟩ := h
    rw [e1] at hx; rw [e2] at hy
    have hx := hx.val; have hy := hy.val
    exact out_bin_of hM hE (by simp [hx]) (by simp [hx]) ((eqs (tkE_isSl h1) hx hy).1 rfl) (.val _) h2
  · rename_i e1 e2
    obtain ⟨h1, h2⟩ := h
    rw [e1] at hx; rw [e2] at hy
    have hx := hx.val; have hy := hy.val
    exact out_bin_of hM hE (by simp [hx]) (by simp [hx]) ((eqs (tkE_isSl h1) hx hy).2 rfl) (.val _) h2
  · rename_i es e1 e2
    obtain ⟨h1, h2, h3⟩ := h
    rw [e1] at hx; rw [e2] at hy
    have hy := hy.val
    generalize hax : a.eval x = av at hx
    cases hx with
    | d hd => cases hd with
      | nil => simp at h2
      | sl => exact out_bin_of hM hE (by simp [hax]) (by simp [hax]) ((eqs (tkE_isSl h1) hax hy).1 rfl) (.val _) h3
  · rename_i es e1 e2
    obtain ⟨h1, h2, h3⟩ := h
    rw [e1] at hx; rw [e2] at hy
    have hy := hy.val
    generalize hax : a.eval x = av at hx
    cases hx with
    | d hd => cases hd with
      | nil => simp at h2
      | sl => exact out_bin_of hM hE (by simp [hax]) (by simp [hax]) ((eqs (tkE_isSl h1) hax hy).2 rfl) (.val _) h3
  · rename_i o off len e1 e2
    obtain ⟨h1, h2, h3⟩ := h
    rw [e1] at hx; rw [e2] at hy
    have hy := hy.val
    generalize hax : a.eval x = av at hx
    cases hx with
    | msl _ _ hn _ =>
      obtain ⟨ad, rfl⟩ := len_pos_some hn h2
      exact out_bin_of hM hE (by simp [hax]) (by simp [hax]) ((eqs (tkE_isSl h1) hax hy).1 rfl) (.val _) h3
  · rename_i o off len e1 e2
    obtain ⟨h1, h2, h3⟩ := h
    rw [e1] at hx; rw [e2] at hy
    have hy := hy.val
    generalize hax : a.eval x = av at hx
    cases hx with
    | msl _ _ hn _ =>
      obtain ⟨ad, rfl⟩ := len_pos_some hn h2
      exact out_bin_of hM hE (by simp [hax]) (by simp [hax]) ((eqs (tkE_isSl h1) hax hy).2 rfl) (.val _) h3
  · rename_i as bs e1 e2
    cases hq : eqsK (tkE T t) as bs with
    | none => rw [hq] at h; exact h.elim
    | some b => rw [hq] at h; exact out_eqs hM hE e1 e2 hq (.inl ⟨rfl, rfl⟩) h
  · rename_i as bs e1 e2
    cases hq : eqsK (tkE T t) as bs with
    | none => rw [hq] at h; exact h.elim
    | some b => rw [hq] at h; exact out_eqs hM hE e1 e2 hq (.inr ⟨rfl, rfl⟩) h
  · exact h.elim

theorem out_unOp (hM : Mem w Pr p st.os) (hE : EnvR w Pr p st.os a.tmps st.env) {op : UnOp} {t : TypeId} {x : Operand} (h : opK T nF st (.unOp op t x) K) :
    Out nF w Pr p st a.tmps K ((execOp a.eval ⟨dst, .unOp op t x, type, pos, after, guard⟩).run P w) := by
  have hx := evalR hE x
  cases op <;> simp only [opK] at h
  · split at h
    · rename_i k n e
      rw [e] at hx
      exact .pure hM hE h (by simp [execOp, hx.val, Op.unary, Op.intArith]) (.d (.val _))
    · exact h.elim
  · split at h
    · rename_i b e
      rw [e] at hx
      exact .pure hM hE h (by simp [execOp, hx.val, Op.unary]) (.d (.val _))
    · exact h.elim

theorem out_makeFunc (hM : Mem w Pr p st.os) (hE : EnvR w Pr p st.os a.tmps st.env) {f : Fn} {x y : Array Operand} (h : opK T nF st (.makeFunc f x y) K) :
    Out nF w Pr p st a.tmps K ((execOp a.eval ⟨dst, .makeFunc f x y, type, pos, after, guard⟩).run P w) := by
  simp only [opK] at h
  refine .pure hM hE h (u := .func f (x.map a.eval) (y.map a.eval)) (by simp [execOp, Instr.makeFunc]) (RelV.mkFn (by simp) (by simp) (fun i hi => ?_) (fun i hi => ?_))
  · simp at hi ⊢; exact evalR hE _
  · simp at hi ⊢; exact evalR hE _

end
end Go.PL

/- PlOps5 -/
namespace Go.PL
open Go

section
variable {P : Program} {T : Tab} [TOk T P] {nF : Nat} {w : World} {Pr : Pro} {p : Place} {st : St} {a : Act} {K : V → St → Prop}
variable {dst : Option Tmp} {type : TypeId} {pos : String} {after : Array Edge} {guard : Option (Nat × Bool)}

theorem vint_rel {os : List Ob} {x : V} {n : Int} {v : Value} (h : vint x = some n) (hr : RelV w Pr p os x v) : ∃ k, v = .int k n := by
  unfold vint at h
  split at h
  · rename_i k m
    cases h
    exact ⟨k, hr.val⟩
  · cases h

theorem bnd_rel {lo : Option V} {lv : Option Value} {d n : Int} (h : bnd d lo = some n) (hn : lo = none → lv = none) (hs : ∀ x, lo = some x → ∃ v, lv = some v ∧ RelV w Pr p st.os x v) :
    (lv = none ∧ n = d) ∨ ∃ k, lv = some (.int k n) := by
  cases lo with
  | none => simp [bnd] at h; exact .inl ⟨hn rfl, h.symm⟩
  | some x =>
    simp [bnd] at h
    obtain ⟨v, h1, h2⟩ := hs x rfl
    obtain ⟨k, rfl⟩ := vint_rel h h2
    exact .inr ⟨k, h1⟩

theorem run_bounds {isSl : Bool} {len cap : Nat} {lo hi : Option Value} {l h : Int} (hl : (lo = none ∧ l = 0) ∨ ∃ k, lo = some (.int k l)) (hh : (hi = none ∧ h = len) ∨ ∃ k, hi = some (.int k h))
    (h0 : 0 ≤ l) (h1 : l ≤ h) (h2 : h ≤ len) (hc : len ≤ cap) : (Instr.sliceBounds isSl len cap lo hi none).run P w = .ok (l.toNat, h.toNat, cap) w := by
  have a1 : 0 ≤ h ∧ h ≤ cap := by omega
  have a2 : 0 ≤ l ∧ l ≤ (h.toNat : Int) := by omega
  have a3 : 0 ≤ l ∧ l ≤ (len : Int) := by omega
  have b1 : ∀ k c, (Instr.sliceBound (.int k h) cap c).run P w = .ok h.toNat w := fun k c => by simp only [Instr.sliceBound, asIntOf, Sem.run_bind, Sem.run_pure, Result.andThen_ok, Sem.run_ite, if_pos a1]
  have b2 : ∀ k c, (Instr.sliceBound (.int k l) h.toNat c).run P w = .ok l.toNat w := fun k c => by simp only [Instr.sliceBound, asIntOf, Sem.run_bind, Sem.run_pure, Result.andThen_ok, Sem.run_ite, if_pos a2]
  have b3 : ∀ k c, (Instr.sliceBound (.int k l) len c).run P w = .ok l.toNat w := fun k c => by simp only [Instr.sliceBound, asIntOf, Sem.run_bind, Sem.run_pure, Result.andThen_ok, Sem.run_ite, if_pos a3]
  rcases hh with ⟨rfl, e⟩ | ⟨k, rfl⟩ <;> rcases hl with ⟨rfl, e2⟩ | ⟨k2, rfl⟩
  · subst e2; subst e; simp [Instr.sliceBounds]
  · subst e; simp [Instr.sliceBounds, b3]
  · subst e2; simp [Instr.sliceBounds, b1]
  · simp [Instr.sliceBounds, b1, b2]

theorem boundsK_rel {n : Nat} {lo hi : Option Operand} {F : Nat → Nat → Prop} (hE : EnvR w Pr p st.os a.tmps st.env) (h : boundsK n (lo.map (ev st.env)) (hi.map (ev st.env)) F) :
    ∃ l h : Nat, l ≤ h ∧ h ≤ n ∧ F l h ∧ ∀ isSl cap, n ≤ cap → (Instr.sliceBounds isSl n cap (lo.map a.eval) (hi.map a.eval) none).run P w = .ok (l, h, cap) w := by
  unfold boundsK at h
  split at h
  · rename_i l hh e1 e2
    obtain ⟨h0, h1, h2, h3⟩ := h
    have b1 := bnd_rel (w := w) (Pr := Pr) (p := p) (st := st) (lv := lo.map a.eval) e1 (by cases lo <;> simp) (by
      intro y hy; cases lo with
      | none => simp at hy
      | some o => simp at hy; subst hy; exact ⟨_, rfl, evalR hE o⟩)
    have b2 := bnd_rel (w := w) (Pr := Pr) (p := p) (st := st) (lv := hi.map a.eval) e2 (by cases hi <;> simp) (by
      intro y hy; cases hi with
      | none => simp at hy
      | some o => simp at hy; subst hy; exact ⟨_, rfl, evalR hE o⟩)
    exact ⟨l.toNat, hh.toNat, by omega, by omega, h3, fun isSl cap hc => run_bounds b1 b2 h0 h1 h2 hc⟩
  · exact h.elim

theorem RelD.slice {es : List D} {ad : Option Addr} {len cap n l h : Nat} (hr : RelD w Pr (.sl es) (.slice ad len cap)) (h1 : l ≤ h) (h2 : h ≤ es.length) (hn : l = h ∨ (gd es l).cells.length = n) :
    RelD w Pr (.sl ((es.drop l).take (h - l))) (.slice (if cap = l then ad else ad.map (·.add (l * n))) (h - l) (cap - l)) := by
  rcases hn with rfl | hn
  · simp only [Nat.sub_self, List.take_zero]; exact .nil _ _
  · by_cases he : l = h
    · subst he; simp only [Nat.sub_self, List.take_zero]; exact .nil _ _
    · cases hr with
      | nil => simp at h2; omega
      | sl _ b off cap sz vs hcap hsz hp hc hr =>
        have hl : l < es.length := by omega
        have hsn : sz = n := by
          have := hsz l hl
          rw [← this]
          simpa [gd, hl] using hn
        subst hsn
        have hne : ¬ cap = l := by omega
        rw [if_neg hne]
        have hlen : ((es.drop l).take (h - l)).length = h - l := by simp; omega
        have key : ∀ i (hi : i < ((es.drop l).take (h - l)).length), ((es.drop l).take (h - l))[i] = es[l + i]'(by rw [hlen] at hi; omega) := by
          intro i hi
          simp [List.getElem_take, List.getElem_drop]
        have := RelD.sl (w := w) (Pr := Pr) ((es.drop l).take (h - l)) b (off + l * sz) (cap - l) sz (fun i j => vs (l + i) j) (by rw [hlen]; omega)
          (fun i hi => by rw [key i hi]; exact hsz _ _) (fun i j hi hj => by
            rw [hlen] at hi
            have := hp (l + i) j (by omega) hj
            rwa [Nat.add_mul, ← Nat.add_assoc] at this)
          (fun i j hi hj => by
            rw [hlen] at hi
            have := hc (l + i) j (by omega) hj
            rwa [Nat.add_mul, ← Nat.add_assoc] at this)
          (fun i hi j hj => by
            have hi2 := hi
            rw [hlen] at hi2
            have hj' : j < es[l + i].cells.length := by rw [← key i hi]; exact hj
            have e : ((es.drop l).take (h - l))[i].cells[j] = es[l + i].cells[j] := by simp [key i hi]
            rw [e]
            exact hr (l + i) (by omega) j hj')
        rw [hlen] at this
        simpa [Addr.add_none] using this

theorem out_slice (hM : Mem w Pr p st.os) (hE : EnvR w Pr p st.os a.tmps st.env) {t : TypeId} {x : Operand} {lo hi mx : Option Operand} (h : opK T nF st (.slice t x lo hi mx) K) :
    Out nF w Pr p st a.tmps K ((execOp a.eval ⟨dst, .slice t x lo hi mx, type, pos, after, guard⟩).run P w) := by
  cases mx with
  | some m => simp only [opK] at h
  | none =>
    simp only [opK] at h
    have hx := evalR hE x
    split at h
    · rename_i ht
      obtain ⟨n1, u1, _, q2, q3⟩ := tk_spec ht (by simp)
      rw [TK.of_str q3] at q2
      unfold sliceStrK at h
      split at h
      · rename_i s e
        rw [e] at hx
        obtain ⟨l, hh, b1, b2, b3, b4⟩ := boundsK_rel (P := P) hE h
        exact .pure hM hE b3 (u := .string (s.extract l hh)) (by simp [execOp, Instr.sliceAt, run_underlying q2, Instr.slice, hx.val, b4 false s.size (Nat.le_refl _)]) (.d (.val _))
      · exact h.elim
    · rename_i e ht
      obtain ⟨n1, u1, _, q2, q3⟩ := tk_spec ht (by simp)
      rw [TK.of_sl q3] at q2
      split at h
      · rename_i i hti
        obtain ⟨n, u, z, k, i1, i2, i3, i4, rfl, i6, i7, i8⟩ := ti_spec hti
        unfold sliceK at h
        split at h
        · rename_i es ee
          rw [ee] at hx
          obtain ⟨l, hh, b1, b2, ⟨b3, b3'⟩, b4⟩ := boundsK_rel (P := P) hE h
          generalize hax : a.eval x = av at hx
          have key : ∀ {ad : Option Addr} {len cap : Nat}, av = .slice ad len cap → len = es.length → len ≤ cap → RelD w Pr (.sl es) (.slice ad len cap) →
              Out nF w Pr p st a.tmps K ((execOp a.eval ⟨dst, .slice t x lo hi none, type, pos, after, guard⟩).run P w) := by
            intro ad len cap e1 e2 e3 hr
            subst e1
            have hb := b4 true cap (by omega)
            rw [← e2] at hb
            exact .pure hM hE b3' (u := .slice (if cap = l then ad else ad.map (·.add (l * n.size))) (hh - l) (cap - l))
              (by simp [execOp, Instr.sliceAt, run_underlying q2, Instr.slice, hax, hb, sizeOf, typeInfo, i1]) (.d (hr.slice b1 b2 b3))
          cases hx with
          | d hd =>
            have hd' := hd
            cases hd with
            | nil ad cap => exact key rfl rfl (Nat.zero_le _) hd'
            | sl _ b off cap sz vs hcap hsz hp hc hr => exact key rfl rfl hcap hd'
        · rename_i ee
          rw [ee] at hx
          obtain ⟨l, hh, b1, b2, b3, b4⟩ := boundsK_rel (P := P) hE h
          have l0 : l = 0 := by omega
          have h0 : hh = 0 := by omega
          subst l0; subst h0
          exact .pure hM hE b3 (u := .slice none 0 0) (by simp [execOp, Instr.sliceAt, run_underlying q2, Instr.slice, hx.val, b4 true 0 (Nat.le_refl _), sizeOf, typeInfo, i1]) (.d (.val _))
        · rename_i o off len ee
          rw [ee] at hx
          obtain ⟨l, hh, b1, b2, ⟨b3, b3'⟩, b4⟩ := boundsK_rel (P := P) hE h
          generalize hax : a.eval x = av at hx
          obtain ⟨ob, mm, ho, hal⟩ := sizeIs_al b3
          · cases hx with
            | @msl _ _ _ ad cap hol hc hn hh2 =>
              refine .pure hM hE b3' (u := .slice (if cap = l then ad else ad.map (·.add (l * n.size))) (hh - l) (cap - l))
                (by simp [execOp, Instr.sliceAt, run_underlying q2, Instr.slice, hax, b4 true cap hc, sizeOf, typeInfo, i1]) (.msl hol (by omega) ?_ ?_)
              · rcases hn with h1 | h1
                · exact .inl (by omega)
                · right; split
                  · exact h1
                  · simpa using h1
              · intro ob2 sz2 n2 ho2 hal2
                rw [ho] at ho2
                cases ho2
                rw [hal] at hal2
                cases hal2
                obtain ⟨g1, g2, g3⟩ := hh2 _ _ _ ho hal
                refine ⟨?_, by omega, by omega⟩
                rcases g1 with rfl | g1
                · by_cases hcl : cap = l
                  · exact .inr (by omega)
                  · rw [if_neg hcl]; left; simp [Addr.add_none, Nat.add_mul]
                · exact .inr (by omega)
        · exact h.elim
      · exact h.elim
    · exact h.elim

theorem run_fieldAt {s : TypeId} {fs : Array Field} {f : Nat} {fd : Field} {n : TypeInfo} (hu : P.underlying s = some (.struct fs)) (hf : fs[f]? = some fd) (hn : P.info? fd.type = some n) (hp : 0 < n.size) (ad : Addr) :
    (Instr.fieldAt s (.pointer (some ad)) f).run P w = .ok (.pointer (some (ad.add fd.offset))) w := by
  have : ¬ n.size = 0 := by omega
  simp [Instr.fieldAt, run_underlying hu, hf, Instr.sureAddr, fieldPlace, sizeOf, typeInfo, hn, this]

theorem st_spec {s : TypeId} {fs : List (Nat × Nat × Bool)} (h : tk T s = .st fs) {f off n : Nat} {g : Bool} (hf : fs[f]? = some (off, n, g)) :
    ∃ (fa : Array Field) (fd : Field) (ni : TypeInfo) (u : TypeDesc), P.underlying s = some (.struct fa) ∧ fa[f]? = some fd ∧ P.info? fd.type = some ni ∧ P.underlying fd.type = some u ∧ off = fd.offset ∧ n = ni.size ∧ g = isAggD u := by
  obtain ⟨n1, u1, _, q2, q3⟩ := tk_spec h (by simp)
  obtain ⟨fa, rfl, q4⟩ := TK.of_st q3
  obtain ⟨_, q5⟩ := fieldTIs_get q4
  obtain ⟨fd, ni, u, k1, k2, k3, k4⟩ := q5 f _ hf
  simp only [Prod.mk.injEq] at k4
  exact ⟨fa, fd, ni, u, q2, by simpa using k1, k2, k3, k4.1, k4.2.1, k4.2.2⟩

theorem out_fieldAddr (hM : Mem w Pr p st.os) (hE : EnvR w Pr p st.os a.tmps st.env) {s : TypeId} {x : Operand} {f : Nat} (h : opK T nF st (.fieldAddr s x f) K) :
    Out nF w Pr p st a.tmps K ((execOp a.eval ⟨dst, .fieldAddr s x f, type, pos, after, guard⟩).run P w) := by
  simp only [opK] at h
  have hx := evalR hE x
  generalize hax : a.eval x = av at hx
  split at h
  · rename_i fs ht
    split at h
    · rename_i off n g o i j hf ee
      rw [ee] at hx
      obtain ⟨fa, fd, ni, u, q1, q2, q3, q4, rfl, rfl, rfl⟩ := st_spec ht hf
      cases hx with
      | @ref _ _ _ ad hol hh =>
        refine .pure hM hE h.2 (u := .pointer (some (ad.add fd.offset))) (by simp [execOp, hax, run_fieldAt q1 q2 q3 h.1]) (.ref hol fun ob ho hd => ?_)
        rw [hh ob ho hd, Addr.add_none, Nat.add_assoc]
    · rename_i off n g cs hf ee
      rw [ee] at hx
      obtain ⟨fa, fd, ni, u, q1, q2, q3, q4, rfl, rfl, rfl⟩ := st_spec ht hf
      cases hx with
      | d hd => cases hd with
        | ptr _ b o2 vs r1 r2 r3 =>
          refine .pure hM hE h.2 (u := .pointer (some ⟨b, o2 + fd.offset, none⟩)) (by simp [execOp, hax, run_fieldAt q1 q2 q3 h.1, Addr.add_none]) (.d ?_)
          refine .ptr _ b _ (fun j => vs (fd.offset + j)) (fun j hj => ?_) (fun j hj => ?_) (fun j hj => ?_)
          · simp at hj; have := r1 (fd.offset + j) (by omega); rwa [← Nat.add_assoc] at this
          · simp at hj; have := r2 (fd.offset + j) (by omega); rwa [← Nat.add_assoc] at this
          · simp at hj; simpa using r3 (fd.offset + j) (by omega)
    · exact h.elim
  · exact h.elim

end
end Go.PL

/- PlOps6 -/
namespace Go.PL
open Go

section
variable {P : Program} {T : Tab} [TOk T P] {nF : Nat} {w : World} {Pr : Pro} {p : Place} {st : St} {a : Act} {K : V → St → Prop}
variable {dst : Option Tmp} {type : TypeId} {pos : String} {after : Array Edge} {guard : Option (Nat × Bool)}

/-- A struct value's cells. -/
theorem agg_cells {os : List Ob} {x : V} {v : Value} (hx : x.isAgg = true) (h : RelV w Pr p os x v) : ∃ vs : Array Value, v = .agg vs ∧ vs.size = x.cells.length ∧ ∀ j (hj : j < x.cells.length) (hj' : j < vs.size), RelV w Pr p os x.cells[j] vs[j] := by
  cases x with
  | agg cs => cases h with
    | agg hs hr => exact ⟨_, rfl, hs, fun j hj hj' => hr j hj⟩
  | d y =>
    cases y with
    | agg cs => cases h with
      | d hd => cases hd with
        | agg _ vs hs hr => exact ⟨vs, rfl, by simpa [V.cells, D.cells] using hs, fun j hj hj' => by
            simp [V.cells, D.cells] at hj
            simpa [V.cells, D.cells] using RelV.d (hr j hj)⟩
    | _ => simp [V.isAgg] at hx
  | _ => simp [V.isAgg] at hx

theorem run_part_one {t : TypeId} {u : TypeDesc} (hu : P.underlying t = some u) (hg : isAggD u = false) {cs : Array Value} {off : Nat} {v : Value} (hv : cs[off]? = some v) : (part t cs off).run P w = .ok v w := by
  cases u <;> first | (simp [isAggD] at hg; done) | simp [part, isAgg, run_underlying hu, hv]

theorem run_part_agg {t : TypeId} {u : TypeDesc} {n : TypeInfo} (hu : P.underlying t = some u) (hn : P.info? t = some n) (hg : isAggD u = true) {cs : Array Value} {off : Nat} :
    (part t cs off).run P w = .ok (.agg (cs.extract off (off + n.size))) w := by
  cases u <;> first | (simp [isAggD] at hg; done) | simp [part, isAgg, run_underlying hu, sizeOf, typeInfo, hn]

theorem out_field (hM : Mem w Pr p st.os) (hE : EnvR w Pr p st.os a.tmps st.env) {s : TypeId} {x : Operand} {f : Nat} (h : opK T nF st (.field s x f) K) :
    Out nF w Pr p st a.tmps K ((execOp a.eval ⟨dst, .field s x f, type, pos, after, guard⟩).run P w) := by
  simp only [opK] at h
  have hx := evalR hE x
  split at h
  · rename_i fs ht
    split at h
    · rename_i off n g hf
      obtain ⟨h1, h2, h3, h4⟩ := h
      obtain ⟨fa, fd, ni, u, q1, q2, q3, q4, rfl, rfl, rfl⟩ := st_spec ht hf
      obtain ⟨vs, e1, e2, e3⟩ := agg_cells h3 hx
      cases hg : isAggD u with
      | false =>
        rcases h2 with h2 | h2
        · rw [hg] at h2; cases h2
        · have hlt : fd.offset < vs.size := by omega
          have hv : vs[fd.offset]? = some vs[fd.offset] := by simp [hlt]
          refine .pure hM hE h4 (u := vs[fd.offset]) (by simp [execOp, Instr.field, run_underlying q1, q2, e1, asAgg, run_part_one (w := w) q4 hg hv]) ?_
          have hd : ((ev st.env x).cells.drop fd.offset).head? = some (ev st.env x).cells[fd.offset] := by
            rw [List.head?_drop, List.getElem?_eq_getElem]
          simp only [ofCells, hg, Bool.false_eq_true, if_false, hd, Option.getD_some]
          exact e3 _ _ _
      | true =>
        refine .pure hM hE h4 (u := .agg (vs.extract fd.offset (fd.offset + ni.size))) (by simp [execOp, Instr.field, run_underlying q1, q2, e1, asAgg, run_part_agg (w := w) q4 q3 hg]) ?_
        simp only [ofCells, hg, if_true]
        refine RelV.mkAgg (by simp; omega) fun j hj => ?_
        have hj' : j < ni.size := by simp at hj; omega
        have := e3 (fd.offset + j) (by omega) (by omega)
        simpa using this
    · exact h.elim
  · exact h.elim

theorem out_indexAddr (hM : Mem w Pr p st.os) (hE : EnvR w Pr p st.os a.tmps st.env) {t : TypeId} {x ix : Operand} (h : opK T nF st (.indexAddr t x ix) K) :
    Out nF w Pr p st a.tmps K ((execOp a.eval ⟨dst, .indexAddr t x ix, type, pos, after, guard⟩).run P w) := by
  simp only [opK] at h
  have hx := evalR hE x
  generalize hax : a.eval x = av at hx
  split at h
  · rename_i e n ht hv
    obtain ⟨kk, hi⟩ := vint_rel hv (evalR hE ix)
    obtain ⟨n1, u1, _, q2, q3⟩ := tk_spec ht (by simp)
    rw [TK.of_sl q3] at q2
    split at h
    · rename_i i hti
      obtain ⟨ni, u, z, k, i1, i2, i3, i4, rfl, i6, i7, i8⟩ := ti_spec hti
      unfold indexK at h
      split at h
      · rename_i o off len ee
        obtain ⟨h1, h2, ⟨h3, h4⟩⟩ := h
        rw [ee] at hx
        cases hx with
        | @msl _ _ _ ad cap hol hc hn hh =>
          obtain ⟨adr, rfl⟩ := len_pos_some hn (by omega)
          have hb : 0 ≤ n ∧ n < (len : Int) := ⟨h1, h2⟩
          obtain ⟨ob0, mm, ho, hal⟩ := sizeIs_al h3
          · refine .pure hM hE h4 (u := .pointer (some (adr.add (n.toNat * ni.size)))) (by simp [execOp, Instr.indexAt, hi, asIntOf, run_underlying q2, hax, hb, sizeOf, typeInfo, i1]) (.ref hol fun ob ho2 hd => ?_)
            rw [ho] at ho2; cases ho2
            obtain ⟨g1, g2, g3⟩ := hh _ _ _ ho hal
            rcases g1 with g1 | g1
            · cases g1; simp [Addr.add_none, (Ob.al_sz hal).1, Nat.add_mul]
            · omega
      · rename_i es ee
        obtain ⟨h1, h2, h3, h4⟩ := h
        rw [ee] at hx
        cases hx with
        | d hd => cases hd with
          | nil => simp at h2; omega
          | sl _ b off cap sz vs hcap hsz hp hc hr =>
            have hlt : n.toNat < es.length := by omega
            have hb : 0 ≤ n ∧ n < (es.length : Int) := ⟨h1, h2⟩
            have hgd : gd es n.toNat = es[n.toNat] := by simp [gd, hlt]
            rw [hgd] at h3 h4
            have e2 := hsz n.toNat hlt
            rw [h3] at e2
            subst e2
            refine .pure hM hE h4 (u := .pointer (some ⟨b, off + n.toNat * ni.size, none⟩)) (by simp [execOp, Instr.indexAt, hi, asIntOf, run_underlying q2, hax, hb, sizeOf, typeInfo, i1, Addr.add_none]) (.d ?_)
            exact .ptr _ b _ (fun j => vs n.toNat j) (fun j hj => hp _ _ hlt (by omega)) (fun j hj => hc _ _ hlt (by omega)) (fun j hj => hr _ hlt j hj)
      · exact h.elim
    · exact h.elim
  · exact h.elim

theorem out_index (hM : Mem w Pr p st.os) (hE : EnvR w Pr p st.os a.tmps st.env) {t : TypeId} {x ix : Operand} (h : opK T nF st (.index t x ix) K) :
    Out nF w Pr p st a.tmps K ((execOp a.eval ⟨dst, .index t x ix, type, pos, after, guard⟩).run P w) := by
  simp only [opK] at h
  have hx := evalR hE x
  split at h
  · rename_i s n ht ee hv
    obtain ⟨kk, hi⟩ := vint_rel hv (evalR hE ix)
    obtain ⟨n1, u1, _, q2, q3⟩ := tk_spec ht (by simp)
    rw [TK.of_str q3] at q2
    rw [ee] at hx
    obtain ⟨h1, h2, h3⟩ := h
    have hlt : n.toNat < s.size := by omega
    have hsi : s[n.toNat]? = some s[n.toNat] := by simp [hlt]
    have e : s.data.toList.getD n.toNat 0 = s[n.toNat] := by
      have h2 : n.toNat < s.data.toList.length := by simpa using hlt
      rw [List.getD, List.getElem?_eq_getElem h2]; rfl
    rw [e] at h3
    exact .pure hM hE h3 (by simp [execOp, Instr.index, hi, asIntOf, run_underlying q2, hx.val, h1, hsi]) (.d (.val _))
  · exact h.elim

theorem out_extract (hM : Mem w Pr p st.os) (hE : EnvR w Pr p st.os a.tmps st.env) {x : Operand} {i : Nat} (h : opK T nF st (.extract x i) K) :
    Out nF w Pr p st a.tmps K ((execOp a.eval ⟨dst, .extract x i, type, pos, after, guard⟩).run P w) := by
  simp only [opK] at h
  have hx := evalR hE x
  generalize hax : a.eval x = av at hx
  split at h
  · rename_i vs ee
    rw [ee] at hx
    cases hx with
    | @tup _ us hs hr =>
      have hlt : i < us.size := by omega
      refine .pure hM hE h.2 (u := us[i]) (by simp [execOp, hax, Instr.extract, hlt]) ?_
      have hg : vs[i]? = some vs[i] := List.getElem?_eq_getElem h.1
      rw [hg]; exact hr i h.1
  · exact h.elim

theorem resolve_builtin {b : Builtin} {args : Array Operand} {ats : Array TypeId} : execOp a.eval ⟨dst, .call { callee := .builtin b, args, argTypes := ats }, type, pos, after, guard⟩ =
    builtin b ats type (args.map fun | .const _ => true | _ => false) (args.map a.eval) := by
  simp only [execOp, resolve]
  rfl

theorem out_len (hM : Mem w Pr p st.os) (hE : EnvR w Pr p st.os a.tmps st.env) {args : Array Operand} {ats : Array TypeId} (h : opK T nF st (.call { callee := .builtin .len, args, argTypes := ats }) K) :
    Out nF w Pr p st a.tmps K ((execOp a.eval ⟨dst, .call { callee := .builtin .len, args, argTypes := ats }, type, pos, after, guard⟩).run P w) := by
  simp only [opK] at h
  rw [resolve_builtin]
  split at h
  · rename_i t x h1 h2
    obtain rfl : ats = #[t] := by rw [← Array.toArray_toList (xs := ats), h1]
    obtain rfl : args = #[x] := by rw [← Array.toArray_toList (xs := args), h2]
    have hx := evalR hE x
    generalize hax : a.eval x = av at hx
    split at h
    · rename_i s ht ee
      obtain ⟨n1, u1, _, q2, q3⟩ := tk_spec ht (by simp)
      rw [TK.of_str q3] at q2
      rw [ee] at hx
      exact .pure hM hE h (by simp [builtin, Builtin.len_, hax, hx.val, run_underlying q2, goInt]) (.d (.val _))
    · rename_i e es ht ee
      obtain ⟨n1, u1, _, q2, q3⟩ := tk_spec ht (by simp)
      rw [TK.of_sl q3] at q2
      rw [ee] at hx
      cases hx with
      | d hd => cases hd with
        | nil => exact .pure hM hE h (by simp [builtin, Builtin.len_, hax, run_underlying q2, goInt]) (.d (.val _))
        | sl => exact .pure hM hE h (by simp [builtin, Builtin.len_, hax, run_underlying q2, goInt]) (.d (.val _))
    · rename_i e ht ee
      obtain ⟨n1, u1, _, q2, q3⟩ := tk_spec ht (by simp)
      rw [TK.of_sl q3] at q2
      rw [ee] at hx
      exact .pure hM hE h (by simp [builtin, Builtin.len_, hax, hx.val, run_underlying q2, goInt]) (.d (.val _))
    · rename_i e o off len ht ee
      obtain ⟨n1, u1, _, q2, q3⟩ := tk_spec ht (by simp)
      rw [TK.of_sl q3] at q2
      rw [ee] at hx
      cases hx with
      | msl => exact .pure hM hE h (by simp [builtin, Builtin.len_, hax, run_underlying q2, goInt]) (.d (.val _))
    · exact h.elim
  · exact h.elim

theorem out_max (hM : Mem w Pr p st.os) (hE : EnvR w Pr p st.os a.tmps st.env) {args : Array Operand} {ats : Array TypeId} (h : opK T nF st (.call { callee := .builtin .max, args, argTypes := ats }) K) :
    Out nF w Pr p st a.tmps K ((execOp a.eval ⟨dst, .call { callee := .builtin .max, args, argTypes := ats }, type, pos, after, guard⟩).run P w) := by
  simp only [opK] at h
  rw [resolve_builtin]
  split at h
  · rename_i x y h2
    obtain rfl : args = #[x, y] := by rw [← Array.toArray_toList (xs := args), h2]
    have hx := evalR hE x
    have hy := evalR hE y
    split at h
    · rename_i k m k' n e1 e2
      rw [e1] at hx; rw [e2] at hy
      exact .pure hM hE h (by simp [builtin, Builtin.max_, Builtin.max2, hx.val, hy.val]) (.d (.val _))
    · exact h.elim
  · exact h.elim

theorem out_min (hM : Mem w Pr p st.os) (hE : EnvR w Pr p st.os a.tmps st.env) {args : Array Operand} {ats : Array TypeId} (h : opK T nF st (.call { callee := .builtin .min, args, argTypes := ats }) K) :
    Out nF w Pr p st a.tmps K ((execOp a.eval ⟨dst, .call { callee := .builtin .min, args, argTypes := ats }, type, pos, after, guard⟩).run P w) := by
  simp only [opK] at h
  rw [resolve_builtin]
  split at h
  · rename_i x y h2
    obtain rfl : args = #[x, y] := by rw [← Array.toArray_toList (xs := args), h2]
    have hx := evalR hE x
    have hy := evalR hE y
    split at h
    · rename_i k m k' n e1 e2
      rw [e1] at hx; rw [e2] at hy
      exact .pure hM hE h (by simp [builtin, Builtin.min_, Builtin.min2, hx.val, hy.val]) (.d (.val _))
    · exact h.elim
  · exact h.elim

end
end Go.PL

/- PlOps7 -/
namespace Go.PL
open Go

section
variable {P : Program} {T : Tab} [TOk T P] {nF : Nat} {w : World} {Pr : Pro} {p : Place} {st : St} {a : Act} {K : V → St → Prop}
variable {dst : Option Tmp} {type : TypeId} {pos : String} {after : Array Edge} {guard : Option (Nat × Bool)}

theorem madeCells_get (z : Array Value) (n k : Nat) (hk : k < n) (hz : 0 < z.size) : (madeCells z n)[k]? = some (z[k % z.size]'(Nat.mod_lt _ hz)) := by
  have : k % z.size < z.size := Nat.mod_lt _ hz
  simp [madeCells, hk, this]

theorem zeroD_cells {n : TypeInfo} {u : TypeDesc} {z : Value} {k : TK} (h6 : z.cells.size = n.size) (h8 : isAggD u = true ∨ n.size = 1) (hp : 0 < n.size) (h7 : z.cells.toList.all oneC = true) :
    (zeroD ⟨n.size, n.bytes, z.cells.toList, isAggD u, k⟩).cells = z.cells.toList.map .val := by
  unfold zeroD
  simp only
  split
  · rfl
  · rename_i hg
    have h1 : n.size = 1 := by rcases h8 with h | h; exact absurd h hg; exact h
    have : z.cells.toList.length = 1 := by simp; omega
    match h9 : z.cells.toList, this with
    | [v], _ =>
      rw [h9] at h7
      simp at h7
      simp
      cases v <;> first | rfl | simp [oneC] at h7

theorem out_makeSlice (hM : Mem w Pr p st.os) (hE : EnvR w Pr p st.os a.tmps st.env) (hnF : nF ≤ st.os.length) {t : TypeId} {l c : Operand} (h : opK T nF st (.makeSlice t l c) K) :
    Out nF w Pr p st a.tmps K ((execOp a.eval ⟨dst, .makeSlice t l c, type, pos, after, guard⟩).run P w) := by
  simp only [opK] at h
  have hl := evalR hE l
  have hc := evalR hE c
  split at h
  · rename_i e ht
    obtain ⟨n1, u1, _, q2, q3⟩ := tk_spec ht (by simp)
    rw [TK.of_sl q3] at q2
    split at h
    · rename_i i k1 n k2 m hti e1 e2
      obtain ⟨ni, u, z, k, i1, i2, i3, i4, rfl, i6, i7, i8⟩ := ti_spec hti
      obtain ⟨g1, g2, g3, g4, g5, g6⟩ := h
      rw [e1] at hl; rw [e2] at hc
      simp only [most] at g3 g5 g6
      have hrun := run_make (P := P) w t e ni z q2 i1 i3 k1 k2 n m g1 g2 (by omega) g4
      refine out_push (w' := w.alloc (.cells (madeCells z.cells (m.toNat * ni.size)) e)) (vs := madeCells z.cells (m.toNat * ni.size)) (et := e) (room := m.toNat)
        (ob := .arr ni.size (List.replicate n.toNat (zeroD ⟨ni.size, ni.bytes, z.cells.toList, isAggD u, k⟩)) false) (u := .slice (some ⟨w.heap.size, 0, none⟩) n.toNat m.toNat)
        hM hE hnF rfl rfl rfl rfl ?_ rfl (by simp [execOp, hl.val, hc.val, hrun]) ?_ g6
      · have hz := zeroD_cells (k := k) i6 i8 g5 i7
        have hzl : z.cells.toList.length = ni.size := by simpa using i6
        refine ⟨by simp [size_madeCells], by simp; omega, by simp only [maxLen]; omega, fun j hj => ?_, fun j hj j' hj' => ?_⟩
        · simp at hj; simp [hz, i6]
        · simp only [List.length_replicate] at hj
          simp only [List.getElem_replicate, hz, List.length_map] at hj' ⊢
          rw [hzl] at hj'
          have hlt : j * ni.size + j' < m.toNat * ni.size := by
            have := Nat.mul_le_mul_right ni.size (show j + 1 ≤ m.toNat by omega)
            rw [Nat.succ_mul] at this; omega
          rw [madeCells_get _ _ _ hlt (by omega)]
          have hm : (j * ni.size + j') % z.cells.size = j' := by
            rw [i6, Nat.add_comm, Nat.add_mul_mod_self_right, Nat.mod_eq_of_lt hj']
          simp only [hm]
          refine ⟨_, rfl, ?_, ?_⟩
          · rw [← oneC_iff]; exact List.all_eq_true.1 i7 _ (by simp)
          · simpa using RelD.val _
      · refine .msl (by simp) (by omega) (.inr rfl) fun ob sz n ho hal => ?_
        simp at ho
        subst ho
        simp only [Ob.al, Option.some.injEq, Prod.mk.injEq] at hal
        obtain ⟨rfl, rfl⟩ := hal
        simp [Place.at]
    · exact h.elim
  · exact h.elim

/-- Cells laid into cells. -/
theorem foldl_set (off : Nat) : ∀ (l : List (Value × Nat)) (cs : Array Value), (l.foldl (fun cs (x : Value × Nat) => cs.setIfInBounds (off + x.2) x.1) cs).size = cs.size
  | [], cs => rfl
  | x :: r, cs => by simp only [List.foldl_cons]; rw [foldl_set off r]; simp

theorem foldl_set_list (off : Nat) : ∀ (l : List Value) (i : Nat) (cs : Array Value), off + i + l.length ≤ cs.size →
    ((l.zipIdx i).foldl (fun cs (x : Value × Nat) => cs.setIfInBounds (off + x.2) x.1) cs).toList = setRange cs.toList (off + i) l
  | [], i, cs, _ => by simp [setRange]
  | v :: r, i, cs, h => by
    simp only [List.zipIdx_cons, List.foldl_cons]
    simp only [List.length_cons] at h
    rw [foldl_set_list off r (i + 1) _ (by simp; omega)]
    apply List.ext_getElem?
    intro k
    rw [setRange_get (by simp; omega), setRange_get (by simp; omega)]
    simp only [List.length_cons, Array.toList_setIfInBounds]
    by_cases h1 : off + (i + 1) ≤ k ∧ k < off + (i + 1) + r.length
    · rw [if_pos h1, if_pos (by omega)]
      rw [show k - (off + i) = (k - (off + (i + 1))) + 1 by omega, List.getElem?_cons_succ]
    · rw [if_neg h1]
      by_cases h2 : k = off + i
      · subst h2
        rw [if_pos (by omega), List.getElem?_set_self (by simp; omega)]
        simp
      · rw [if_neg (by omega), List.getElem?_set_ne (by omega)]

/-- The cells of a struct or an array are as the plain machine says. -/
def CellsR (w : World) (Pr : Pro) (p : Place) (os : List Ob) (cs : List V) (vs : Array Value) : Prop :=
  vs.size = cs.length ∧ ∀ j (hj : j < cs.length), ∃ u, vs[j]? = some u ∧ u.oneCell' = true ∧ RelV w Pr p os cs[j] u

theorem fill_rel {os : List Ob} {place at_ : Nat → Option (Nat × Nat)} (hp : ∀ i, place i = at_ i) : ∀ {parts : List (Nat × V)} {vparts : List (Nat × Value)} {cs cs' : List V} {vs : Array Value},
    fillCells at_ cs parts = some cs' → CellsR w Pr p os cs vs → parts.length = vparts.length → (∀ i (h1 : i < parts.length) (h2 : i < vparts.length), parts[i].1 = vparts[i].1 ∧ RelV w Pr p os parts[i].2 vparts[i].2) →
    ∃ vs', Instr.fill place vs vparts = some vs' ∧ CellsR w Pr p os cs' vs'
  | [], vparts, cs, cs', vs, h, hc, hl, _ => by
    simp only [fillCells, Option.some.injEq] at h
    subst h
    have : vparts = [] := List.eq_nil_of_length_eq_zero hl.symm
    subst this
    exact ⟨vs, rfl, hc⟩
  | (i, v) :: r, [], cs, cs', vs, h, hc, hl, _ => by simp at hl
  | (i, v) :: r, (i', u) :: r', cs, cs', vs, h, hc, hl, hr => by
    obtain ⟨e1, e2⟩ := hr 0 (by simp) (by simp)
    simp only [List.getElem_cons_zero] at e1 e2
    subst e1
    simp only [fillCells] at h
    split at h
    · cases h
    · rename_i off n ha
      split at h
      · rename_i hcond
        obtain ⟨c1, c2, c3⟩ := hcond
        obtain ⟨k1, k2⟩ := RelV.cells e2 c3
        simp only [Instr.fill, hp, ha]
        have hne : ¬ ((u.cells.size != n || decide (off + u.cells.size > vs.size)) = true) := by
          simp; rw [← k1, hc.1]; exact ⟨c1, by omega⟩
        have hne2 : ¬ (u.cells.size ≠ n ∨ off + u.cells.size > vs.size) := by rw [← k1, hc.1]; omega
        have hfold : (u.cells.zipIdx.foldl (fun cs (x : Value × Nat) => cs.setIfInBounds (off + x.2) x.1) vs) = (setRange vs.toList off u.cells.toList).toArray := by
          rw [← Array.foldl_toList]
          have := foldl_set_list off u.cells.toList 0 vs (by simp; rw [hc.1]; omega)
          rw [Nat.add_zero] at this
          rw [← this]
          simp [Array.toList_zipIdx]
        have hc' : CellsR w Pr p os (setRange cs off v.cells) (setRange vs.toList off u.cells.toList).toArray := by
          have hl1 : off + v.cells.length ≤ cs.length := by omega
          have hl2 : off + u.cells.toList.length ≤ vs.toList.length := by simp; rw [hc.1]; omega
          refine ⟨by simp only [List.size_toArray]; rw [setRange_len hl2, setRange_len hl1]; simpa using hc.1, fun j hj => ?_⟩
          rw [setRange_len hl1] at hj
          have q := setRange_get (cs := cs) (xs := v.cells) hl1 j
          have q' := setRange_get (cs := vs.toList) (xs := u.cells.toList) hl2 j
          simp only [List.getElem?_toArray, q']
          by_cases hrr : off ≤ j ∧ j < off + v.cells.length
          · obtain ⟨x, r1, r2, r3⟩ := k2 (j - off) (by omega)
            rw [if_pos (by simp; omega)]
            rw [if_pos hrr] at q
            refine ⟨x, by simpa using r1, r2, ?_⟩
            have e : (setRange cs off v.cells)[j]'(by rw [setRange_len hl1]; exact hj) = v.cells[j - off] := by
              apply Option.some.inj
              rw [← List.getElem?_eq_getElem, q, List.getElem?_eq_getElem]
            rw [e]; exact r3
          · obtain ⟨x, r1, r2, r3⟩ := hc.2 j hj
            rw [if_neg (by simp; omega)]
            rw [if_neg hrr] at q
            refine ⟨x, by simpa using r1, r2, ?_⟩
            have e : (setRange cs off v.cells)[j]'(by rw [setRange_len hl1]; exact hj) = cs[j] := by
              apply Option.some.inj
              rw [← List.getElem?_eq_getElem, q, List.getElem?_eq_getElem]
            rw [e]; exact r3
        obtain ⟨vs', f1, f2⟩ := fill_rel (os := os) hp h hc' (by simpa using hl) (fun j h1 h2 => hr (j + 1) (by simpa using h1) (by simpa using h2))
        refine ⟨vs', ?_, f2⟩
        simp only [hfold]
        rw [← f1]
        simp [← k1, c1, hc.1]
        intro h9
        omega
      · cases h

theorem zero_cells {os : List Ob} {z : Value} (h7 : z.cells.toList.all oneC = true) : CellsR w Pr p os (z.cells.toList.map fun v => V.d (.val v)) z.cells := by
  refine ⟨by simp, fun j hj => ?_⟩
  simp at hj
  refine ⟨z.cells[j], by simp [hj], ?_, ?_⟩
  · rw [← oneC_iff]; exact List.all_eq_true.1 h7 _ (by simp)
  · simpa using RelV.d (RelD.val _)

def vparts (a : Act) (parts : Array (Nat × Operand)) : Array (Nat × Value) := parts.map fun (x : Nat × Operand) => (x.1, a.eval x.2)

theorem parts_rel (hE : EnvR w Pr p st.os a.tmps st.env) (parts : Array (Nat × Operand)) : (parts.toList.map fun x => (x.1, ev st.env x.2)).length = (vparts a parts).toList.length ∧
    ∀ i (h1 : i < (parts.toList.map fun x => (x.1, ev st.env x.2)).length) (h2 : i < (vparts a parts).toList.length),
      (parts.toList.map fun x => (x.1, ev st.env x.2))[i].1 = (vparts a parts).toList[i].1 ∧ RelV w Pr p st.os (parts.toList.map fun x => (x.1, ev st.env x.2))[i].2 (vparts a parts).toList[i].2 := by
  refine ⟨by simp [vparts], fun i h1 h2 => ?_⟩
  simp only [vparts, List.getElem_map, Array.toList_map, true_and]
  exact evalR hE _

theorem out_build (hM : Mem w Pr p st.os) (hE : EnvR w Pr p st.os a.tmps st.env) {t : TypeId} {parts : Array (Nat × Operand)} (h : opK T nF st (.build t parts) K) :
    Out nF w Pr p st a.tmps K ((execOp a.eval ⟨dst, .build t parts, type, pos, after, guard⟩).run P w) := by
  simp only [opK] at h
  split at h
  · rename_i i hti
    obtain ⟨ni, u, z, k, i1, i2, i3, i4, rfl, i6, i7, i8⟩ := ti_spec hti
    split at h
    · rename_i fs hk
      simp only at hk
      subst hk
      obtain ⟨fa, rfl, q4⟩ := TK.of_st i4
      split at h
      · rename_i cs hf
        obtain ⟨l1, l2⟩ := parts_rel (w := w) (Pr := Pr) (p := p) hE parts
        have hpl := fieldTIs_places q4
        obtain ⟨vs, f1, f2⟩ := fill_rel (w := w) (Pr := Pr) (p := p) (os := st.os) (place := fun x => ((fs.map fun x => (x.1, x.2.1)).toArray)[x]?) (at_ := fieldAt fs) (fun i => by simp [fieldAt]) hf (zero_cells i7) l1 l2
        have hb : P.built t (vparts a parts).toList = some vs := by
          unfold Program.built
          simp only [i1, i2, i3, hpl]
          exact f1
        refine .pure hM hE h (u := .agg vs) (by
          have := run_build (P := P) w t (vparts a parts) vs hb
          unfold vparts at this
          simp only [execOp, Sem.run_bind, this]
          rfl) (RelV.mkAgg f2.1 fun i hi => ?_)
        obtain ⟨x, r1, r2, r3⟩ := f2.2 i hi
        have : vs[i]'(by rw [f2.1]; exact hi) = x := by
          have h9 : i < vs.size := by rw [f2.1]; exact hi
          simp [h9] at r1; exact r1
        rw [this]; exact r3
      · exact h.elim
    · exact h.elim
  · exact h.elim

end
end Go.PL

/- PlOps8 -/
namespace Go.PL
open Go

theorem chunk_len {g : Bool} {n : Nat} : ∀ (k : Nat) (cs : List D), (chunk g n k cs).length = k
  | 0, _ => rfl
  | k + 1, cs => by simp [chunk, chunk_len k]

theorem chunk_cells {g : Bool} {n : Nat} (hg : g = true ∨ n = 1) : ∀ (k : Nat) (cs : List D), (∀ i (hi : i < cs.length), cs[i].one = true) → cs.length = k * n → ∀ i (hi : i < (chunk g n k cs).length),
    (chunk g n k cs)[i].cells = (cs.drop (i * n)).take n
  | 0, cs, _, _, i, hi => absurd hi (by simp [chunk])
  | k + 1, cs, h1, hl, i, hi => by
    have hl' : cs.length = k * n + n := by rw [hl, Nat.succ_mul]
    cases i with
    | zero =>
      simp only [chunk, List.getElem_cons_zero, Nat.zero_mul, List.drop_zero]
      split
      · rfl
      · rename_i hgf
        have hn : n = 1 := by rcases hg with h | h; exact absurd h hgf; exact h
        subst hn
        match cs, hl' with
        | x :: r, _ =>
          simp only [List.head?_cons, Option.getD_some, List.take_succ_cons, List.take_zero]
          exact D.one_cells (h1 0 (by simp))
    | succ i =>
      simp only [chunk, List.getElem_cons_succ]
      have hi' : i < (chunk g n k (cs.drop n)).length := by simpa [chunk] using hi
      rw [chunk_cells hg k (cs.drop n) (fun j hj => by simp at hj ⊢; exact h1 _ _) (by simp; omega) i hi', List.drop_drop]
      congr 2
      rw [Nat.succ_mul, Nat.add_comm]

theorem flat_get {α : Type} (l : List α) (hl : 0 < l.length) : ∀ (n k : Nat), k < n * l.length → ((List.replicate n l).flatten)[k]? = l[k % l.length]?
  | 0, k, h => absurd h (by simp)
  | n + 1, k, h => by
    simp only [List.replicate_succ, List.flatten_cons]
    rw [Nat.succ_mul] at h
    by_cases hk : k < l.length
    · rw [List.getElem?_append_left hk, Nat.mod_eq_of_lt hk]
    · have e : k % l.length = (k - l.length) % l.length := Nat.mod_eq_sub_mod (by omega)
      rw [List.getElem?_append_right (by omega), flat_get l hl n (k - l.length) (by omega), e]

section
variable {P : Program} {T : Tab} [TOk T P] {nF : Nat} {w : World} {Pr : Pro} {p : Place} {st : St} {a : Act} {K : V → St → Prop}
variable {dst : Option Tmp} {type : TypeId} {pos : String} {after : Array Edge} {guard : Option (Nat × Bool)}

theorem out_buildSlice (hM : Mem w Pr p st.os) (hE : EnvR w Pr p st.os a.tmps st.env) (hnF : nF ≤ st.os.length) {t : TypeId} {len : Nat} {parts : Array (Nat × Operand)} (h : opK T nF st (.buildSlice t len parts) K) :
    Out nF w Pr p st a.tmps K ((execOp a.eval ⟨dst, .buildSlice t len parts, type, pos, after, guard⟩).run P w) := by
  simp only [opK] at h
  split at h
  · rename_i e ht
    obtain ⟨n1, u1, _, q2, q3⟩ := tk_spec ht (by simp)
    rw [TK.of_sl q3] at q2
    split at h
    · rename_i i hti
      obtain ⟨ni, u, z, k, i1, i2, i3, i4, rfl, i6, i7, i8⟩ := ti_spec hti
      simp only at h
      split at h
      · rename_i cs hf
        split at h
        · rename_i ds l hl
          obtain ⟨g1, g2, g3⟩ := h
          have hzl : z.cells.toList.length = ni.size := by simpa using i6
          have hlen0 : (List.map (fun v => V.d (D.val v)) z.cells.toList).length = ni.size := by simpa using i6
          have hinit : CellsR w Pr p st.os (List.replicate len (z.cells.toList.map fun v => V.d (.val v))).flatten (madeCells z.cells (len * ni.size)) := by
            have hfl : (List.replicate len (z.cells.toList.map fun v => V.d (D.val v))).flatten.length = len * ni.size := by simp [i6]
            refine ⟨by rw [size_madeCells, hfl], fun j hj => ?_⟩
            rw [hfl] at hj
            rw [madeCells_get _ _ _ hj (by omega)]
            have hm : j % ni.size < ni.size := Nat.mod_lt _ g2
            have hm' : j % z.cells.size < z.cells.size := by rw [i6]; exact hm
            refine ⟨_, rfl, ?_, ?_⟩
            · rw [← oneC_iff]; exact List.all_eq_true.1 i7 _ (by simp)
            · have e1 := flat_get (z.cells.toList.map fun v => V.d (D.val v)) (by rw [hlen0]; exact g2) len j (by rw [hlen0]; exact hj)
              rw [hlen0] at e1
              rw [List.getElem?_eq_getElem (by rw [hfl]; exact hj), List.getElem?_eq_getElem (by rw [hlen0]; exact hm)] at e1
              rw [Option.some.inj e1]
              simp only [List.getElem_map, i6]
              exact .d (.val _)
          obtain ⟨l1, l2⟩ := parts_rel (w := w) (Pr := Pr) (p := p) hE parts
          obtain ⟨vs, f1, f2⟩ := fill_rel (w := w) (Pr := Pr) (p := p) (os := st.os) (place := fun j => some (j * ni.size, ni.size)) (fun i => rfl) hf hinit l1 l2
          obtain ⟨Pr1, m1, s1, c1, fz1⟩ := frozenM (nF := nF) hnF l hM
          obtain ⟨d1, d2⟩ := mapL_rel (fun h hz hr => leaf1_rel hM s1 h hz hr) hl fz1
          have hfillLen : ∀ {at_ : Nat → Option (Nat × Nat)} {parts : List (Nat × V)} {cs cs' : List V}, fillCells at_ cs parts = some cs' → cs.all V.one = true → cs'.length = cs.length ∧ cs'.all V.one = true := by
            intro at_ parts
            induction parts with
            | nil => intro cs cs' h h1; simp only [fillCells, Option.some.injEq] at h; subst h; exact ⟨rfl, h1⟩
            | cons x r ih =>
              intro cs cs' h h1
              simp only [fillCells] at h
              split at h
              · cases h
              · split at h
                · rename_i off n _ hc
                  have hr : off + x.2.cells.length ≤ cs.length := by omega
                  have := ih h (by
                    simp only [setRange, List.all_append, Bool.and_eq_true]
                    rw [List.all_eq_true] at h1
                    exact ⟨⟨List.all_eq_true.2 fun y hy => h1 y (List.mem_of_mem_take hy), hc.2.2⟩, List.all_eq_true.2 fun y hy => h1 y (List.mem_of_mem_drop hy)⟩)
                  rw [setRange_len hr] at this
                  exact this
                · cases h
          have hall0 : (List.replicate len (z.cells.toList.map fun v => V.d (D.val v))).flatten.all V.one = true := by
            rw [List.all_eq_true]
            intro x hx
            simp only [List.mem_flatten, List.mem_replicate] at hx
            obtain ⟨y, ⟨_, rfl⟩, hx⟩ := hx
            simp only [List.mem_map] at hx
            obtain ⟨v, hv, rfl⟩ := hx
            have := List.all_eq_true.1 i7 v hv
            cases v <;> first | rfl | simp [oneC] at this
          obtain ⟨hcsl, hall⟩ := hfillLen hf hall0
          have hcsl2 : cs.length = len * ni.size := by rw [hcsl]; simp [i6]
          have hone := mapL_one hl hall
          have hchunk := chunk_cells (g := isAggD u) (n := ni.size) i8 len ds hone (by omega)
          have hrun : (execOp a.eval ⟨dst, .buildSlice t len parts, type, pos, after, guard⟩).run P w = .ok (.value (.slice (some ⟨w.heap.size, 0, none⟩) len len)) (w.alloc (.cells vs e)) := by
            have hfl : Instr.fill (fun j => some (j * ni.size, ni.size)) (madeCells z.cells (len * ni.size)) (List.map (fun x => (x.fst, a.eval x.snd)) parts.toList) = some vs := by simpa [vparts] using f1
            by_cases h0 : len * ni.size = 0
            · have : madeCells z.cells (len * ni.size) = #[] := by rw [h0]; simp [madeCells]
              rw [this] at hfl
              have e0 : Array.map (fun (_ : Nat) => (default : Value)) (Array.range 0) = #[] := by apply Array.ext' ; simp [Array.toList_range]
              simp only [execOp, Instr.buildSlice, Sem.run_bind, run_underlying q2, Result.andThen_ok, sizeOf, typeInfo, run_program, i1, Sem.run_pure, h0]
              simp [hfl, newRow, e0]
            · have hgt : ¬ (len * ni.size > 2 ^ 24) := by omega
              simp only [execOp, Instr.buildSlice, Sem.run_bind, run_underlying q2, Result.andThen_ok, sizeOf, typeInfo, run_program, i1, Sem.run_pure, zeroValue, i3, if_neg h0, if_neg hgt]
              unfold madeCells at hfl
              simp [hfl, newRow]
          obtain ⟨m2, s2, c2⟩ := push (nF := nF) (w' := w.alloc (.cells vs e)) (et := e) (room := len) (vs := vs) (ob := .arr ni.size (chunk (isAggD u) ni.size len ds) false)
            m1.mem (Nat.le_trans hnF c1.len) rfl rfl rfl rfl ⟨by rw [f2.1, hcsl2], by rw [chunk_len]; exact Nat.le_refl _, by simp only [maxLen]; have := Nat.le_mul_of_pos_right len g2; omega, fun j hj => by
              rw [hchunk j hj]; rw [chunk_len] at hj; simp
              have := Nat.mul_le_mul_right ni.size (show j + 1 ≤ len by omega)
              rw [Nat.succ_mul] at this; omega, fun j hj j' hj' => by
              have hj2 := hj
              rw [chunk_len] at hj2
              have e1 := hchunk j hj
              have hj3 : j' < ni.size := by rw [e1] at hj'; simp at hj'; omega
              have hlt : j * ni.size + j' < len * ni.size := by
                have := Nat.mul_le_mul_right ni.size (show j + 1 ≤ len by omega)
                rw [Nat.succ_mul] at this; omega
              obtain ⟨x, r1, r2, r3⟩ := f2.2 (j * ni.size + j') (by omega)
              refine ⟨x, r1, r2, ?_⟩
              have e2 : (chunk (isAggD u) ni.size len ds)[j].cells[j'] = ds[j * ni.size + j']'(by omega) := by
                simp [e1]
              rw [e2]
              exact d2 _ (by omega) (by omega) x r3⟩ rfl
          refine ⟨_, _, _, _, _, _, g3, .inl hrun, ⟨m1.trans m2, EnvR.moved (s1.trans s2) (c1.trans c2) hE⟩, ?_⟩
          have hol : (freeze st.os l).length = st.os.length := freeze_len _ _
          refine .msl (by simp [hol]) (Nat.le_refl _) (.inr rfl) fun ob sz n ho hal => ?_
          simp only [hol] at ho ⊢
          rw [List.getElem?_append_right (by omega)] at ho
          simp [hol] at ho
          subst ho
          simp only [Ob.al, Option.some.injEq, Prod.mk.injEq] at hal
          obtain ⟨rfl, rfl⟩ := hal
          simp [Place.at, chunk_len]
        · exact h.elim
      · exact h.elim
    · exact h.elim
  · exact h.elim

end
end Go.PL

/- PlOps9 -/
namespace Go.PL
open Go

/-- As 'Cmp', but for one object. -/
structure CmpBut (k : Nat) (p p' : Place) (os os' : List Ob) : Prop where
  len : os.length ≤ os'.length
  live : ∀ o ob', o ≠ k → o < os.length → os'[o]? = some ob' → ob' ≠ .dead → ∃ ob, os[o]? = some ob ∧ ob ≠ .dead ∧ p'.bl o = p.bl o ∧ p'.room o = p.room o ∧ ob'.sz = ob.sz
  arr : ∀ o ob' sz n', o ≠ k → o < os.length → os'[o]? = some ob' → ob'.al = some (sz, n') → ∃ ob n, os[o]? = some ob ∧ ob.al = some (sz, n) ∧ n ≤ n'

section
variable {w w' : World} {Pr Pr' : Pro} {p p' : Place} {os os' : List Ob} {k : Nat}

theorem RelV.kill1 (hs : Stab w w' Pr Pr') (hc : CmpBut k p p' os os') {x : V} {v : Value} (h : RelV w Pr p os x v) : RelV w' Pr' p' os' (PL.kill1 k x) v := by
  cases h with
  | d h => exact .d (h.mono hs)
  | @ref o i j a ho h =>
    simp only [PL.kill1]
    by_cases e : o = k
    · subst e; simp; exact .any
    · have : Nat.beq o k = false := by cases hb : Nat.beq o k with | false => rfl | true => exact absurd (Nat.eq_of_beq_eq_true hb) e
      rw [this, cond_false]
      refine .ref (Nat.lt_of_lt_of_le ho hc.len) fun ob' h1 h2 => ?_
      obtain ⟨ob, h3, h4, h5, _, h7⟩ := hc.live o ob' e ho h1 h2
      rw [h ob h3 h4, h5, h7]
  | @msl o off len A cap ho hl hn h =>
    simp only [PL.kill1]
    by_cases e : o = k
    · subst e; simp; exact .any
    · have : Nat.beq o k = false := by cases hb : Nat.beq o k with | false => rfl | true => exact absurd (Nat.eq_of_beq_eq_true hb) e
      rw [this, cond_false]
      refine .msl (Nat.lt_of_lt_of_le ho hc.len) hl hn fun ob' sz n' h1 h1' => ?_
      obtain ⟨ob, n, h2, h2', h3⟩ := hc.arr o ob' sz n' e ho h1 h1'
      obtain ⟨ob1, g3, g4, g5, g6, g7⟩ := hc.live o _ e ho h1 (Ob.al_sz h1').2
      obtain ⟨a1, a2, a3⟩ := h ob sz n h2 h2'
      rw [g5, g6]
      exact ⟨a1, by omega, a3⟩
  | _ => exact .any

theorem RelV.kill (hs : Stab w w' Pr Pr') (hc : CmpBut k p p' os os') {x : V} {v : Value} (h : RelV w Pr p os x v) : RelV w' Pr' p' os' (PL.kill k x) v := by
  have h0 := h
  cases h with
  | agg hz hr => exact .agg (by simpa using hz) (fun i hi => by simp at hi ⊢; exact (hr i hi).kill1 hs hc)
  | fn hf hcz hrf hrc => exact .fn (by simpa using hf) (by simpa using hcz) (fun i hi => by simp at hi ⊢; exact (hrf i hi).kill1 hs hc) (fun i hi => by simp at hi ⊢; exact (hrc i hi).kill1 hs hc)
  | _ => exact h0.kill1 hs hc

theorem look_kill (env : List (Nat × V)) (t : Nat) : look (env.map fun x => (x.1, PL.kill k x.2)) t = PL.kill k (look env t) := by
  induction env with
  | nil => rfl
  | cons x r ih =>
    obtain ⟨y, v⟩ := x
    simp only [List.map_cons, look, ih]
    cases Nat.beq y t <;> rfl

theorem EnvR.kill {tmps : Array Value} {env : List (Nat × V)} (hs : Stab w w' Pr Pr') (hc : CmpBut k p p' os os') (h : EnvR w Pr p os tmps env) : EnvR w' Pr' p' os' tmps (env.map fun x => (x.1, PL.kill k x.2)) :=
  fun t => by rw [look_kill]; exact (h t).kill hs hc

theorem Ob.kill_facts (ob : Ob) : (ob.kill k).sz = ob.sz ∧ (ob.isTree = false → (ob.kill k).cnt = ob.cnt) ∧ (ob.kill k).fzn = ob.fzn ∧ (ob.kill k = .dead ↔ ob = .dead) ∧ (ob.kill k).al = ob.al ∧ (ob.kill k).isTree = ob.isTree := by
  cases ob <;> simp [Ob.kill, Ob.sz, Ob.cnt, Ob.fzn, Ob.al, Ob.isTree]

theorem RelC.kill1 (hs : Stab w w' Pr Pr') (hc : CmpBut k p p' os os') {S S' : Nat → Prop} (hS : ∀ b, S b → S' b ∧ w'.heap[b]? = w.heap[b]?) {x : V} {v : Value} (h : RelC w Pr p os S x v) : RelC w' Pr' p' os' S' (PL.kill1 k x) v := by
  cases x with
  | d x => exact Tr.mono h hS
  | msl o a b =>
    have := RelV.kill1 hs hc h
    simp only [PL.kill1] at this ⊢
    cases hb : Nat.beq o k with
    | true => exact .any
    | false => rw [hb] at this; exact this
  | ref o a b =>
    have := RelV.kill1 hs hc h
    simp only [PL.kill1] at this ⊢
    cases hb : Nat.beq o k with
    | true => exact .any
    | false => rw [hb] at this; exact this
  | _ => exact .any

theorem RelC.killC (hs : Stab w w' Pr Pr') (hc : CmpBut k p p' os os') {S S' : Nat → Nat → Prop} (hS : ∀ j b, S j b → S' j b ∧ w'.heap[b]? = w.heap[b]?) (v : V) :
    ∃ e : (PL.kill k v).cells.length = v.cells.length, ∀ j (hj : j < v.cells.length) u, RelC w Pr p os (S j) v.cells[j] u → RelC w' Pr' p' os' (S' j) ((PL.kill k v).cells[j]'(by omega)) u := by
  cases v with
  | agg cs =>
    refine ⟨by simp [PL.kill, V.cells], fun j hj u h => ?_⟩
    simp only [PL.kill, V.cells, List.getElem_map] at h ⊢
    exact h.kill1 hs hc (hS j)
  | d x =>
    refine ⟨rfl, fun j hj u h => ?_⟩
    simp only [PL.kill, PL.kill1, V.cells, List.getElem_map] at h ⊢
    exact Tr.mono h (hS j)
  | fn f a b =>
    refine ⟨rfl, fun j hj u h => ?_⟩
    have : j = 0 := by simp [V.cells] at hj; exact hj
    subst this
    exact RelV.kill hs hc h
  | msl o a b =>
    have e : (PL.kill k (.msl o a b)).cells = [PL.kill1 k (.msl o a b)] := by
      simp only [PL.kill, PL.kill1]; cases Nat.beq o k <;> rfl
    refine ⟨by rw [e]; rfl, fun j hj u h => ?_⟩
    have : j = 0 := by simp [V.cells] at hj; exact hj
    subst this
    simp only [e, List.getElem_cons_zero]
    exact h.kill1 hs hc (hS 0)
  | ref o a b =>
    have e : (PL.kill k (.ref o a b)).cells = [PL.kill1 k (.ref o a b)] := by
      simp only [PL.kill, PL.kill1]; cases Nat.beq o k <;> rfl
    refine ⟨by rw [e]; rfl, fun j hj u h => ?_⟩
    have : j = 0 := by simp [V.cells] at hj; exact hj
    subst this
    simp only [e, List.getElem_cons_zero]
    exact h.kill1 hs hc (hS 0)
  | tup cs =>
    refine ⟨rfl, fun j hj u h => ?_⟩
    have : j = 0 := by simp [V.cells] at hj; exact hj
    subst this
    exact .any
  | any =>
    refine ⟨rfl, fun j hj u h => ?_⟩
    have : j = 0 := by simp [V.cells] at hj; exact hj
    subst this
    exact .any

theorem PreOb.kill {room : Nat} {vs : Array Value} {ob : Ob} (hs : Stab w w' Pr Pr') (hc : CmpBut k p p' os os') (h : PreOb w Pr p os room vs ob) : PreOb w' Pr' p' os' room vs (ob.kill k) := by
  cases ob with
  | var cs fz =>
    obtain ⟨h1, h2⟩ := h
    refine ⟨by simpa using h1, fun j hj => ?_⟩
    simp at hj
    obtain ⟨v, k1, k2, k3⟩ := h2 j hj
    exact ⟨v, k1, k2, by simpa using k3.kill hs hc⟩
  | arr sz es fz =>
    obtain ⟨h1, h2, h3, h4, h5⟩ := h
    refine ⟨h1, h2, h3, h4, fun i hi j hj => ?_⟩
    obtain ⟨v, k1, k2, k3⟩ := h5 i hi j hj
    exact ⟨v, k1, k2, k3.mono hs⟩
  | dead => exact h
  | tree => exact h

/-- An array has more elements; it lies where it lay, or in a block of its own; slices of it are spoken of no more. -/
theorem grown {nF : Nat} (hM : Mem w Pr p os) {o sz : Nat} {es es' : List D} {fz : Bool} {vs vs' : Array Value} {et et' : TypeId} {b room : Nat} (ho : os[o]? = some (.arr sz es fz)) (hnF : nF ≤ o)
    (hv : w.heap[p.bl o]? = some (.cells vs et (0, 0)))
    (hb : (b = p.bl o ∧ room = p.room o ∧ w'.heap.size = w.heap.size ∧ ∀ j, j < es.length * sz → vs'[j]? = vs[j]?) ∨ (b = w.heap.size ∧ w'.heap.size = w.heap.size + 1))
    (hw : w'.heap[b]? = some (.cells vs' et' (0, 0))) (hwo : ∀ k, k ≠ b → k < w.heap.size → w'.heap[k]? = w.heap[k]?)
    (h1 : w'.os = w.os) (h2 : w'.tape = w.tape) (h3 : w'.output = w.output)
    (hob : PreOb w Pr p os room vs' (.arr sz es' fz)) (hlen : es.length ≤ es'.length) :
    Moved nF w w' Pr (Pr.more fz b (es'.length * sz)) p (p.at o b room) os ((os.map (Ob.kill o)).set o (.arr sz es' fz)) ∧
      Stab w w' Pr (Pr.more fz b (es'.length * sz)) ∧ CmpBut o p (p.at o b room) os ((os.map (Ob.kill o)).set o (.arr sz es' fz)) := by
  have hol : o < os.length := by
    rcases Nat.lt_or_ge o os.length with h | h
    · exact h
    · rw [List.getElem?_eq_none h] at ho; cases ho
  have hsz : w.heap.size ≤ w'.heap.size := by rcases hb with h | h <;> omega
  have hprO : ∀ j, Pr (p.bl o) j ↔ fz = true ∧ j < es.length * sz := by obtain ⟨_, _, _, _, _, _, _, _, g⟩ := hM.ob o _ ho; exact g
  have hst : Stab w w' Pr (Pr.more fz b (es'.length * sz)) := by
    refine ⟨fun _ _ h => .inl h, fun b' i v hp hc => ?_⟩
    have hin := hM.prIn b' i hp
    by_cases hbb : b' = b
    · subst hbb
      rcases hb with ⟨rfl, _, _, hk⟩ | ⟨rfl, _⟩
      · obtain ⟨g1, g2⟩ := (hprO i).1 hp
        have := hk i g2
        simp only [cellAt, World.cell?, hv, hw] at hc ⊢
        simp at hc ⊢
        rw [this]; exact hc
      · omega
    · rw [cellAt_of_heap (hwo b' hbb hin)]; exact hc
  have get : ∀ {i : Nat} {x : Ob}, ((os.map (Ob.kill o)).set o (.arr sz es' fz))[i]? = some x → (i ≠ o ∧ ∃ y, os[i]? = some y ∧ x = y.kill o) ∨ (i = o ∧ x = .arr sz es' fz) := by
    intro i x h
    rcases os_get_set h with ⟨g1, g2⟩ | ⟨g1, _, g2⟩
    · rw [List.getElem?_map] at g2
      cases h' : os[i]? with
      | none => simp [h'] at g2
      | some y => simp [h'] at g2; exact .inl ⟨g1, y, rfl, g2.symm⟩
    · exact .inr ⟨g1, g2⟩
  have hpl : ∀ i, i ≠ o → (p.at o b room).bl i = p.bl i ∧ (p.at o b room).room i = p.room i := fun i hi => by simp [Place.at, hi]
  have hpo : (p.at o b room).bl o = b ∧ (p.at o b room).room o = room := by simp [Place.at]
  have hcb : CmpBut o p (p.at o b room) os ((os.map (Ob.kill o)).set o (.arr sz es' fz)) := by
    refine ⟨by simp, fun i x hi hl h hd => ?_, fun i x sz2 n2 hi hl h h' => ?_⟩
    · rcases get h with ⟨_, y, g1, rfl⟩ | ⟨g1, _⟩
      · obtain ⟨f1, f2, f3, f4, f5, f6⟩ := Ob.kill_facts (k := o) y
        exact ⟨y, g1, fun e => hd (f4.2 e), (hpl i hi).1, (hpl i hi).2, f1⟩
      · exact absurd g1 hi
    · rcases get h with ⟨_, y, g1, g2⟩ | ⟨g1, _⟩
      · subst g2
        obtain ⟨f1, f2, f3, f4, f5, f6⟩ := Ob.kill_facts (k := o) y
        exact ⟨y, n2, g1, by rw [← f5]; exact h', Nat.le_refl _⟩
      · exact absurd g1 hi
  have hbl : ∀ i y, i ≠ o → os[i]? = some y → y ≠ .dead → p.bl i ≠ b := by
    intro i y hi hy hd e
    rcases hb with ⟨rfl, _⟩ | ⟨rfl, _⟩
    · exact hi (hM.inj i o y _ hy ho hd (by simp) e)
    · have := hM.blk i y hy hd; omega
  refine ⟨⟨⟨hst, ⟨h1, h2, h3, hsz, fun k hk hf => hwo k (fun e => ?_) hk⟩, fun b' i hp => ?_, by simp, fun i x hi h hd => ?_, fun i x sz2 n2 hi h h' => ?_, ?_⟩, ?_⟩, hst, hcb⟩
  · subst e
    rcases hb with ⟨rfl, _⟩ | ⟨rfl, _⟩
    · exact hf ⟨o, _, ho, by simp, .inl rfl⟩
    · omega
  · rcases hp with hp | ⟨_, rfl, _⟩
    · exact .inl hp
    · rcases hb with ⟨rfl, _⟩ | ⟨rfl, _⟩
      · exact .inr (.inr ⟨o, _, ho, by simp, .inl rfl⟩)
      · exact .inr (.inl (Nat.le_refl _))
  · exact hcb.live i x (by omega) (by omega) h hd
  · exact hcb.arr i x sz2 n2 (by omega) (by omega) h h'
  · rintro k ⟨i, x, h, hd, h9⟩
    rcases get h with ⟨g1, y, g2, rfl⟩ | ⟨rfl, rfl⟩
    · obtain ⟨f1, f2, f3, f4, f5, f6⟩ := Ob.kill_facts (k := o) y
      rw [(hpl i g1).1, f6] at h9
      exact .inr ⟨i, y, g2, fun e => hd (f4.2 e), h9⟩
    · rw [hpo.1] at h9
      rcases h9 with h9 | ⟨h9, _⟩
      · rcases hb with ⟨rfl, _⟩ | ⟨rfl, _⟩
        · exact .inr ⟨i, _, ho, by simp, .inl h9⟩
        · exact .inl (by omega)
      · cases h9
  · have hown : ∀ i y k c, os[i]? = some y → y.isTree = true → p.ow k = some (i, c) → k ≠ b ∧ isC w k := fun i y k c h1 h2 h3 => by
      obtain ⟨a1, a2, a3⟩ := hM.own i y k c h1 h2 h3
      refine ⟨?_, a1⟩
      rintro rfl
      rcases hb with ⟨e, _⟩ | ⟨e, _⟩
      · exact a3 o _ ho (by simp) e.symm
      · have := a1.lt; omega
    refine ⟨fun b' i hp => ?_, fun i x h hd => ?_, fun i i' x y hx hy hdx hdy e => ?_, fun i x h => ?_, fun i x k c h ht hk => ?_⟩
    rotate_left 4
    · rcases get h with ⟨n1, y, g1, rfl⟩ | ⟨rfl, rfl⟩
      · rw [(Ob.kill_facts y).2.2.2.2.2] at ht
        obtain ⟨a1, a2, a3⟩ := hM.own i y k c g1 ht hk
        obtain ⟨c1, c2⟩ := hown i y k c g1 ht hk
        refine ⟨a1.of (hwo k c1 c2.lt), fun j hj => ?_, fun o' ob2 h4 h5 => ?_⟩
        · rcases hj with hj | ⟨_, e, _⟩
          · exact a2 j hj
          · exact c1 e
        · rcases get h4 with ⟨n2, y2, q2, rfl⟩ | ⟨rfl, rfl⟩
          · rw [(hpl o' n2).1]; exact a3 o' y2 q2 fun e => h5 ((Ob.kill_facts y2).2.2.2.1.2 e)
          · rw [hpo.1]; exact c1.symm
      · cases ht
    · rcases hp with hp | ⟨_, rfl, _⟩
      · exact Nat.lt_of_lt_of_le (hM.prIn b' i hp) hsz
      · exact (Array.getElem?_eq_some_iff.1 hw).1
    · rcases get h with ⟨g1, y, g2, rfl⟩ | ⟨rfl, rfl⟩
      · rw [(hpl i g1).1]; exact Nat.lt_of_lt_of_le (hM.blk i y g2 fun e => hd ((Ob.kill_facts y).2.2.2.1.2 e)) hsz
      · rw [hpo.1]; exact (Array.getElem?_eq_some_iff.1 hw).1
    · rcases get hx with ⟨n1, y1, g1, rfl⟩ | ⟨rfl, rfl⟩ <;> rcases get hy with ⟨n2, y2, g2, rfl⟩ | ⟨rfl, rfl⟩
      · rw [(hpl i n1).1, (hpl i' n2).1] at e
        exact hM.inj i i' y1 y2 g1 g2 (fun e => hdx ((Ob.kill_facts y1).2.2.2.1.2 e)) (fun e => hdy ((Ob.kill_facts y2).2.2.2.1.2 e)) e
      · rw [(hpl i n1).1, hpo.1] at e
        exact absurd e (hbl i y1 n1 g1 (fun e => hdx ((Ob.kill_facts y1).2.2.2.1.2 e)))
      · rw [(hpl i' n2).1, hpo.1] at e
        exact absurd e.symm (hbl i' y2 n2 g2 (fun e => hdy ((Ob.kill_facts y2).2.2.2.1.2 e)))
      · rfl
    · rcases get h with ⟨n1, y, g1, rfl⟩ | ⟨rfl, rfl⟩
      · by_cases hd : y = .dead
        · subst hd; trivial
        · have hne := hbl i y n1 g1 hd
          cases hty : y.isTree with
          | true =>
            cases y with
            | tree sz3 es3 =>
              obtain ⟨vs0, et0, q1, q2, q3, q4, q5, q6, q7⟩ := hM.ob i _ g1
              have hbi := hpl i n1
              have hkc := fun (m j' : Nat) => RelC.killC (k := o) (p := p) (p' := p.at o b room) (os := os) (os' := (os.map (Ob.kill o)).set o (.arr sz es' fz)) (S := fun j b' => p.ow b' = some (i, m * sz3 + j)) (S' := fun j b' => (p.at o b room).ow b' = some (i, m * sz3 + j)) hst hcb (fun j b' hb' => by
                obtain ⟨c1, c2⟩ := hown i _ b' _ g1 rfl hb'
                exact ⟨hb', hwo b' c1 c2.lt⟩)
              refine ⟨vs0, et0, by rw [hbi.1, hwo _ hne (hM.blk i _ g1 hd)]; exact q1, by rw [hbi.2]; exact q2, by rw [hbi.2]; simpa using q3, by rw [hbi.2]; exact q4, fun m hm => ?_, fun m hm j hj => ?_, fun j => ?_⟩
              · simp only [List.length_map] at hm
                obtain ⟨e, _⟩ := hkc m 0 es3[m]
                rw [List.getElem_map, e]
                exact q5 m hm
              · simp only [List.length_map] at hm
                obtain ⟨e, hk⟩ := hkc m 0 es3[m]
                simp only [List.getElem_map] at hj ⊢
                obtain ⟨u, z1, z2, z3⟩ := q6 m hm j (by omega)
                exact ⟨u, z1, z2, hk j (by omega) u z3⟩
              · rw [hbi.1]
                rintro (h | ⟨_, e, _⟩)
                · exact q7 j h
                · exact hne e
            | _ => cases hty
          | false =>
          obtain ⟨vs0, et0, q1, q2, q3⟩ := (hM.ob i y g1).pre hd hty
          obtain ⟨f1, f2', f3, f4, _⟩ := Ob.kill_facts (k := o) y
          have f2 := f2' hty
          refine ObRel.of_pre (et := et0) (.refl _ _) (.refl _ _) (q2.kill hst hcb) (by rw [(hpl i n1).1, hwo _ hne (hM.blk i y g1 hd)]; exact q1) (hpl i n1).2 fun j => ?_
          rw [(hpl i n1).1, f3, f2, ← q3]
          constructor
          · rintro (h | ⟨_, e, _⟩)
            · exact h
            · exact absurd e hne
          · exact .inl
      · have hob' : PreOb w' (Pr.more fz b (es'.length * sz)) (p.at i b room) ((os.map (Ob.kill i)).set i (.arr sz es' fz)) room vs' (.arr sz es' fz) := hob.kill hst hcb
        refine ObRel.of_pre (et := et') (.refl _ _) (.refl _ _) hob' (by rw [hpo.1]; exact hw) hpo.2 fun j => ?_
        rw [hpo.1]
        constructor
        · rintro (h | ⟨h1, _, h2⟩)
          · rcases hb with ⟨rfl, _⟩ | ⟨rfl, _⟩
            · obtain ⟨g1, g2⟩ := (hprO j).1 h
              have := Nat.mul_le_mul_right sz hlen
              exact ⟨g1, by simp only [Ob.cnt]; omega⟩
            · exact absurd h hM.prB
          · exact ⟨h1, h2⟩
        · rintro ⟨g1, g2⟩; exact .inr ⟨g1, rfl, g2⟩

end
end Go.PL

/- PlOpsA -/
namespace Go.PL
open Go

section
variable {P : Program} {T : Tab} [TOk T P] {nF : Nat} {w : World} {Pr : Pro} {p : Place} {st : St} {a : Act} {K : V → St → Prop}
variable {dst : Option Tmp} {type : TypeId} {pos : String} {after : Array Edge} {guard : Option (Nat × Bool)}

/-- The cells of elements, one behind the other. -/
def cellsOf (es : List D) : List D := es.flatMap D.cells

theorem cellsOf_len {sz : Nat} : ∀ {es : List D}, (∀ e ∈ es, e.cells.length = sz) → (cellsOf es).length = es.length * sz
  | [], _ => by simp [cellsOf]
  | e :: r, h => by
    have := cellsOf_len (fun x hx => h x (List.mem_cons_of_mem _ hx))
    simp only [cellsOf, List.flatMap_cons, List.length_append] at this ⊢
    rw [this, h e (by simp), List.length_cons, Nat.succ_mul, Nat.add_comm]

/-- What an appended slice holds. -/
theorem src_rel (hM : Mem w Pr p st.os) {x : V} {v : Value} {news : List D} {sz : Nat} (h : elems st.os x = some news) (hr : RelV w Pr p st.os x v) (hsz : ∀ e ∈ news, e.cells.length = sz) :
    ∃ A n c, v = .slice A n c ∧ n = news.length ∧ (0 < n → ∃ (ad : Addr) (vs : Nat → Nat → Value), A = some ad ∧ ∀ i j, i < n → j < sz → w.cell? (ad.add (i * sz + j)) = some (vs i j) ∧ ∀ (hi : i < news.length) (hj : j < news[i].cells.length), RelD w Pr news[i].cells[j] (vs i j)) := by
  unfold elems at h
  split at h
  · cases h
    cases hr with
    | d hd => cases hd with
      | nil A cap => exact ⟨A, 0, cap, rfl, rfl, fun h => absurd h (Nat.lt_irrefl _)⟩
      | sl _ b off cap sz2 vs hcap hsz2 hp hc hrr =>
        refine ⟨_, _, cap, rfl, rfl, fun h0 => ⟨_, vs, rfl, fun i j hi hj => ?_⟩⟩
        have e : sz2 = sz := by rw [← hsz2 0 h0]; exact hsz _ (List.getElem_mem h0)
        subst e
        refine ⟨?_, fun hi' hj' => hrr i hi' j hj'⟩
        rw [Addr.add_none, ← Nat.add_assoc]
        exact hc i j hi hj
  · cases h
    exact ⟨none, 0, 0, hr.val, rfl, fun h => absurd h (Nat.lt_irrefl _)⟩
  · rename_i o off len
    split at h
    · rename_i sz2 es fz ho
      cases h
      cases hr with
      | @msl _ _ _ A cap hol hc hn hh =>
        obtain ⟨g1, g2, g3⟩ := hh _ _ _ ho rfl
        have hlen : ((es.drop off).take len).length = len := by simp; omega
        obtain ⟨vs, et, q1, q2, q3, q4, q5, q6, q7⟩ := hM.ob o _ ho
        refine ⟨A, len, cap, rfl, hlen.symm, fun h0 => ?_⟩
        have hA : A = some ⟨p.bl o, off * sz2, none⟩ := by rcases g1 with h | h; exact h; omega
        have e : sz2 = sz := by
          rw [← q5 off (by omega)]
          have := hsz ((es.drop off).take len)[0] (List.getElem_mem (by omega))
          simpa using this
        subst e
        refine ⟨_, fun i j => (vs[(off + i) * sz2 + j]?).getD undef, hA, fun i j hi hj => ?_⟩
        have hi' : off + i < es.length := by omega
        obtain ⟨u, r1, r2, r3⟩ := q6 (off + i) hi' j (by rw [q5 _ hi']; exact hj)
        refine ⟨?_, fun h5 h6 => ?_⟩
        · rw [Addr.add_none, show off * sz2 + (i * sz2 + j) = (off + i) * sz2 + j by rw [Nat.add_mul]; omega]
          simp only [World.cell?, q1, r1]
          simp [r1]
        · simp only [r1, Option.getD_some]
          simpa using r3
    · cases h
  · cases h

/-- The cells of a slice as a list. -/
theorem src_list {n sz : Nat} {vs : Nat → Nat → Value} {ad : Addr} (h : ∀ i j, i < n → j < sz → w.cell? (ad.add (i * sz + j)) = some (vs i j)) :
    ∃ l : List Value, l.length = n * sz ∧ (∀ j u, l[j]? = some u → w.cell? (ad.add j) = some u) ∧ ∀ i j, i < n → j < sz → l[i * sz + j]? = some (vs i j) := by
  refine ⟨(List.range (n * sz)).map fun k => vs (k / sz) (k % sz), by simp, fun j u hj => ?_, fun i j hi hj => ?_⟩
  · rw [List.getElem?_map] at hj
    by_cases hlt : j < n * sz
    · rw [List.getElem?_range hlt] at hj
      simp at hj
      subst hj
      have hpos : 0 < sz := by
        rcases Nat.eq_zero_or_pos sz with h0 | h0
        · subst h0; simp at hlt
        · exact h0
      have := h (j / sz) (j % sz) (by rw [Nat.div_lt_iff_lt_mul hpos]; exact hlt) (Nat.mod_lt _ hpos)
      rwa [Nat.div_add_mod'] at this
    · rw [List.getElem?_eq_none (by simp; omega)] at hj; cases hj
  · have hlt : i * sz + j < n * sz := by
      have := Nat.mul_le_mul_right sz (show i + 1 ≤ n by omega)
      rw [Nat.succ_mul] at this; omega
    have hd : (i * sz + j) / sz = i := by
      rw [Nat.add_comm, Nat.add_mul_div_right _ _ (by omega), Nat.div_eq_of_lt hj, Nat.zero_add]
    have hm : (i * sz + j) % sz = j := by rw [Nat.add_comm, Nat.add_mul_mod_self_right, Nat.mod_eq_of_lt hj]
    rw [List.getElem?_map, List.getElem?_range hlt]
    simp [hd, hm]

theorem append_none_run {t e ty : TypeId} {ni : TypeInfo} (ht : P.underlying t = some (.slice e)) (hi : P.info? e = some ni) {base A : Option Addr} {n cap c : Nat} (hc : n ≤ cap) :
    (Builtin.append_ #[t, t] ty #[.slice base n cap, .slice A 0 c]).run P w = .ok (.slice base n cap) w := by
  have h2 : ∀ size, (Builtin.firstCells size 0 (.slice A 0 c)).run P w = .ok #[] w := by
    intro size
    cases A <;> simp [Builtin.firstCells, loadCells, loadCellsFrom]
  simp only [Builtin.append_, run_underlying ht, sizeOf, typeInfo, hi, Builtin.lenOf, Sem.run_bind, Sem.run_pure, Result.andThen_ok, run_program]
  cases base <;> simp [Builtin.append_, run_underlying ht, sizeOf, typeInfo, hi, Builtin.lenOf, hc, h2, storeCells]

theorem numsL_len : ∀ {l : List D} {ns : List Int}, numsL l = some ns → ns.length = l.length
  | [], ns, h => by simp only [numsL, Option.some.injEq] at h; subst h; rfl
  | d :: r, ns, h => by
    unfold numsL at h
    split at h
    · rename_i e; cases e
    · rename_i n r' e
      cases e
      cases hr : numsL r with
      | none => rw [hr] at h; cases h
      | some m => rw [hr] at h; cases h; simp [numsL_len hr]
    · cases h
theorem numsL_get : ∀ {l : List D} {ns : List Int}, numsL l = some ns → ∀ i (h : i < l.length), l[i] = .val (.int .u8 (ns.getD i 0))
  | d :: r, ns, h, i, hi => by
    unfold numsL at h
    split at h
    · rename_i e; cases e
    · rename_i n r' e
      cases e
      cases hr : numsL r with
      | none => rw [hr] at h; cases h
      | some m =>
        rw [hr] at h; cases h
        cases i with
        | zero => rfl
        | succ i => simpa using numsL_get hr i (by simpa using hi)
    · cases h
theorem numsL_sz {l : List D} {ns : List Int} (h : numsL l = some ns) : ∀ e ∈ l, e.cells.length = 1 := by
  intro e he
  obtain ⟨i, hi, rfl⟩ := List.getElem_of_mem he
  rw [numsL_get h i hi]; rfl
theorem run_convert_bytes_empty {P : Program} (w : World) (src e : TypeId) {dst : TypeId} (hs : P.underlying src = some (.slice e)) (he : P.underlying e = some (.int .u8)) (hd : P.underlying dst = some .string) (A : Option Addr) (c : Nat) :
    (convert src dst (.slice A 0 c)).run P w = .ok (.string (strB [])) w := by
  rw [run_convert_bytes_string w src dst e _ 0 c hs he hd]
  cases A <;> simp [Conv.bytesToString, loadCells]
  all_goals rfl

theorem out_convert (hM : Mem w Pr p st.os) (hE : EnvR w Pr p st.os a.tmps st.env) {s t : TypeId} {x : Operand} (h : opK T nF st (.convert s t x) K) :
    Out nF w Pr p st a.tmps K ((execOp a.eval ⟨dst, .convert s t x, type, pos, after, guard⟩).run P w) := by
  have hx := evalR hE x
  simp only [opK] at h
  split at h
  · rename_i k1 k2 k3 n h1 h2 e
    rw [e] at hx
    obtain ⟨n1, u1, _, q2, q3⟩ := tk_spec h1 (by simp)
    obtain ⟨n2, u2, _, r2, r3⟩ := tk_spec h2 (by simp)
    rw [TK.of_int q3] at q2
    rw [TK.of_int r3] at r2
    exact .pure hM hE h (by simp [execOp, hx.val, convert, run_underlying q2, run_underlying r2, Conv.intToInt]) (.d (.val _))
  · rename_i s1 h1 h2 e
    rw [e] at hx
    obtain ⟨n1, u1, _, q2, q3⟩ := tk_spec h1 (by simp)
    obtain ⟨n2, u2, _, r2, r3⟩ := tk_spec h2 (by simp)
    rw [TK.of_str q3] at q2
    rw [TK.of_str r3] at r2
    exact .pure hM hE h (by simp [execOp, hx.val, convert, run_underlying q2, run_underlying r2]) (.d (.val _))
  · rename_i e h1 h2
    obtain ⟨n1, u1, _, q2, q3⟩ := tk_spec h1 (by simp)
    obtain ⟨n2, u2, _, r2, r3⟩ := tk_spec h2 (by simp)
    rw [TK.of_sl q3] at q2
    rw [TK.of_str r3] at r2
    unfold bytesK at h
    split at h
    · rename_i l h4 h5
      split at h
      · rename_i ns hn
        obtain ⟨n3, u3, _, s2, s3⟩ := tk_spec h4 (by simp)
        rw [TK.of_int s3] at s2
        have hsz := numsL_sz hn
        obtain ⟨A, n, c, hv, hnn, hcells⟩ := src_rel hM h5 hx hsz
        have hlen := numsL_len hn
        rcases Nat.eq_zero_or_pos n with h0 | h0
        · subst h0
          have hns : ns = [] := List.eq_nil_of_length_eq_zero (by omega)
          subst hns
          refine .pure hM hE h ?_ (.d (.val _))
          have hrun := run_convert_bytes_empty w _ _ q2 s2 r2 A c
          simp [execOp, hv, hrun]
        · obtain ⟨ad, vs, rfl, hc⟩ := hcells h0
          refine .pure hM hE h ?_ (.d (.val _))
          have hcell : ∀ i, i < n → w.cell? (ad.add i) = some (.int .u8 (ns.getD i 0)) := by
            intro i hi
            obtain ⟨k1, k2⟩ := hc i 0 hi (by omega)
            rw [Nat.mul_one, Nat.add_zero] at k1
            rw [k1]
            have hil : i < l.length := by omega
            have k3 := k2 hil (by rw [hsz _ (List.getElem_mem hil)]; omega)
            have k4 := numsL_get hn i hil
            have k5 : ∀ (d : D) (hd : d = .val (.int .u8 (ns.getD i 0))) (h0 : 0 < d.cells.length), RelD w Pr d.cells[0] (vs i 0) → vs i 0 = .int .u8 (ns.getD i 0) := by
              rintro d rfl h0 hr
              have hr' : RelD w Pr (.val (.int .u8 (ns.getD i 0))) (vs i 0) := hr
              generalize vs i 0 = u at hr' ⊢
              cases hr'; rfl
            rw [k5 _ k4 _ k3]
          obtain ⟨b, off, spot⟩ := ad
          have hs : spot = none := by
            have := hcell 0 h0
            unfold World.cell? Addr.add at this
            simp only [if_true] at this
            split at this
            · split at this
              · cases this
              · rename_i hq; cases spot <;> simp_all
            · cases this
          subst hs
          have hrun := run_convert_bytes_arg w _ _ q2 s2 b off n c ns (by omega) (fun i hi => by
            rw [← hcell i hi]
            congr 1
            unfold Addr.add; split <;> simp_all) _ r2
          simp [execOp, hv, hrun]
          rfl
      · exact h.elim
    · exact h.elim
  · exact h.elim

end
end Go.PL

/- PlOpsB -/
namespace Go.PL
open Go

section
variable {P : Program} {T : Tab} [TOk T P] {nF : Nat} {w : World} {Pr : Pro} {p : Place} {st : St} {a : Act} {K : V → St → Prop}
variable {dst : Option Tmp} {type : TypeId} {pos : String} {after : Array Edge} {guard : Option (Nat × Bool)}

theorem idx_lt {i n j sz : Nat} (hi : i < n) (hj : j < sz) : i * sz + j < n * sz := by
  have := Nat.mul_le_mul_right sz (show i + 1 ≤ n by omega)
  rw [Nat.succ_mul] at this; omega

theorem preob_append {os : List Ob} {room sz : Nat} {es news : List D} {fz : Bool} {pre nl post : List Value}
    (h1 : pre.length = es.length * sz) (h2 : nl.length = news.length * sz) (h3 : (pre ++ nl ++ post).length = room * sz) (h4 : es.length + news.length ≤ room) (h5 : room ≤ maxLen)
    (h6 : ∀ i (_ : i < es.length), es[i].cells.length = sz) (h7 : ∀ i (_ : i < news.length), news[i].cells.length = sz)
    (h8 : ∀ i (_ : i < es.length) j (_ : j < es[i].cells.length), ∃ v, pre[i * sz + j]? = some v ∧ v.oneCell' = true ∧ RelD w Pr es[i].cells[j] v)
    (h9 : ∀ i (_ : i < news.length) j (_ : j < news[i].cells.length), ∃ v, nl[i * sz + j]? = some v ∧ v.oneCell' = true ∧ RelD w Pr news[i].cells[j] v) :
    PreOb w Pr p os room (pre ++ nl ++ post).toArray (.arr sz (es ++ news) fz) := by
  refine ⟨by simpa using h3, by simpa using h4, h5, fun i hi => ?_, fun i hi j hj => ?_⟩
  · rw [List.getElem_append]
    split
    · exact h6 _ _
    · exact h7 _ _
  · by_cases hlt : i < es.length
    · have e : (es ++ news)[i] = es[i] := List.getElem_append_left hlt
      have hj' : j < es[i].cells.length := by rw [← e]; exact hj
      obtain ⟨v, k1, k2, k3⟩ := h8 i hlt j hj'
      have hx : i * sz + j < pre.length := by rw [h1]; exact idx_lt hlt (by rw [← h6 i hlt]; exact hj')
      refine ⟨v, ?_, k2, ?_⟩
      · simp only [List.getElem?_toArray, List.append_assoc]
        rw [List.getElem?_append_left hx]; exact k1
      · have : (es ++ news)[i].cells[j] = es[i].cells[j] := by simp [e]
        rw [this]; exact k3
    · have hlt2 : i - es.length < news.length := by simp at hi; omega
      have e : (es ++ news)[i] = news[i - es.length] := List.getElem_append_right (by omega)
      have hj' : j < news[i - es.length].cells.length := by rw [← e]; exact hj
      obtain ⟨v, k1, k2, k3⟩ := h9 _ hlt2 j hj'
      have hx : (i - es.length) * sz + j < nl.length := by rw [h2]; exact idx_lt hlt2 (by rw [← h7 _ hlt2]; exact hj')
      have hge : es.length * sz ≤ i * sz := Nat.mul_le_mul_right _ (by omega)
      have hsub : (i - es.length) * sz = i * sz - es.length * sz := Nat.sub_mul _ _ _
      refine ⟨v, ?_, k2, ?_⟩
      · simp only [List.getElem?_toArray, List.append_assoc]
        rw [List.getElem?_append_right (by omega), List.getElem?_append_left (by omega)]
        rw [← k1]; congr 1; omega
      · have : (es ++ news)[i].cells[j] = news[i - es.length].cells[j] := by simp [e]
        rw [this]; exact k3

theorem arr_cells {os : List Ob} {o sz : Nat} {es : List D} {fz : Bool} {vs : Array Value} {et : TypeId} (_ : w.heap[p.bl o]? = some (.cells vs et (0, 0)))
    (h : PreOb w Pr p os (p.room o) vs (.arr sz es fz)) : (vs.toList.take (es.length * sz)).length = es.length * sz ∧
      ∀ i (_ : i < es.length) j (_ : j < es[i].cells.length), ∃ v, (vs.toList.take (es.length * sz))[i * sz + j]? = some v ∧ v.oneCell' = true ∧ RelD w Pr es[i].cells[j] v := by
  obtain ⟨h1, h2, h3, h4, h5⟩ := h
  refine ⟨by simp; rw [h1]; exact Nat.min_eq_left (Nat.mul_le_mul_right _ h2), fun i hi j hj => ?_⟩
  obtain ⟨v, k1, k2, k3⟩ := h5 i hi j hj
  exact ⟨v, by rw [List.getElem?_take, if_pos (idx_lt hi (by rw [← h4 i hi]; exact hj))]; simpa using k1, k2, k3⟩

theorem out_append_of (hM : Mem w Pr p st.os) (hE : EnvR w Pr p st.os a.tmps st.env) {o sz : Nat} {es es' : List D} {fz : Bool} {vs : Array Value} {et : TypeId} {r : Result Next} {len' : Nat}
    (ho : st.os[o]? = some (.arr sz es fz)) (hnF : nF ≤ o) (hv : w.heap[p.bl o]? = some (.cells vs et (0, 0))) {w' : World} {b room cap : Nat} {vs' : Array Value} {et' : TypeId}
    (hb : (b = p.bl o ∧ room = p.room o ∧ w'.heap.size = w.heap.size ∧ ∀ j, j < es.length * sz → vs'[j]? = vs[j]?) ∨ (b = w.heap.size ∧ w'.heap.size = w.heap.size + 1))
    (hw : w'.heap[b]? = some (.cells vs' et' (0, 0))) (hwo : ∀ k, k ≠ b → k < w.heap.size → w'.heap[k]? = w.heap[k]?)
    (h1 : w'.os = w.os) (h2 : w'.tape = w.tape) (h3 : w'.output = w.output)
    (hob : PreOb w Pr p st.os room vs' (.arr sz es' fz)) (hlen : es.length ≤ es'.length) {A : Option Addr} (hA : A = some ⟨b, 0, none⟩ ∨ cap = 0) (hn : len' = 0 ∨ A.isSome = true) (hl : len' = es'.length) (hc : len' ≤ cap) (hcr : cap ≤ room)
    (hr : r = .ok (.value (.slice A len' cap)) w') (hK : K (.msl o 0 len') { st.kill o with os := (st.kill o).os.set o (.arr sz es' fz) }) : Out nF w Pr p st a.tmps K r := by
  have hol : o < st.os.length := by
    rcases Nat.lt_or_ge o st.os.length with h | h
    · exact h
    · rw [List.getElem?_eq_none h] at ho; cases ho
  obtain ⟨m, hs, hcb⟩ := grown (nF := nF) hM ho hnF hv hb hw hwo h1 h2 h3 hob hlen
  refine ⟨_, _, _, w', _, _, hK, .inl hr, ⟨m, EnvR.kill hs hcb hE⟩, .msl (by simpa [St.kill] using hol) hc hn fun ob2 sz2 n2 ho2 hal2 => ?_⟩
  simp only [St.kill] at ho2
  rw [List.getElem?_set_self (by simpa using hol)] at ho2
  cases ho2
  simp only [Ob.al, Option.some.injEq, Prod.mk.injEq] at hal2
  obtain ⟨rfl, rfl⟩ := hal2
  refine ⟨?_, by omega, by simp [Place.at]; omega⟩
  rcases hA with h | h
  · left; rw [h]; simp [Place.at]
  · exact .inr h

theorem heap_drew_alloc (w : World) (o : Obj) : ((w.drew).alloc o).heap = w.heap.push o := rfl

theorem out_append (hM : Mem w Pr p st.os) (hE : EnvR w Pr p st.os a.tmps st.env) (hnF : nF ≤ st.os.length) {args : Array Operand} {ats : Array TypeId} (h : opK T nF st (.call { callee := .builtin .append, args, argTypes := ats }) K) :
    Out nF w Pr p st a.tmps K ((execOp a.eval ⟨dst, .call { callee := .builtin .append, args, argTypes := ats }, type, pos, after, guard⟩).run P w) := by
  simp only [opK] at h
  rw [resolve_builtin]
  split at h
  · rename_i t t' s x h1 h2
    obtain rfl : ats = #[t, t'] := by rw [← Array.toArray_toList (xs := ats), h1]
    obtain rfl : args = #[s, x] := by rw [← Array.toArray_toList (xs := args), h2]
    split at h
    · rename_i e news ht hel
      obtain ⟨n1, u1, _, q2, q3⟩ := tk_spec ht (by simp)
      rw [TK.of_sl q3] at q2
      split at h
      · rename_i i hti
        obtain ⟨ni, u, z, k, i1, i2, i3, i4, rfl, i6, i7, i8⟩ := ti_spec hti
        obtain ⟨rfl, h⟩ := h
        unfold appendK at h
        obtain ⟨hnews, hpos, h⟩ := h
        simp only at hnews hpos
        have hn1 : ∀ e ∈ news, e.cells.length = ni.size := fun e he => (hnews e he).1
        have hn2 : ∀ i (_ : i < news.length), news[i].cells.length = ni.size := fun i hi => hn1 _ (List.getElem_mem hi)
        obtain ⟨A, n, c, hxv, hnl, hsrc⟩ := src_rel hM hel (evalR hE x) hn1
        have hs := evalR hE s
        have hbr : ∀ v w', (Builtin.append_ #[t', t'] type #[a.eval s, a.eval x]).run P w = .ok v w' → (builtin .append #[t', t'] type (#[s, x].map fun | .const _ => true | _ => false) (#[s, x].map a.eval)).run P w = .ok (.value v) w' := by
          intro v w' hh
          simp [builtin, hh]
        -- what is appended, if anything
        have hlist : 0 < n → ∃ (ad : Addr) (nl : List Value), A = some ad ∧ nl.length = n * ni.size ∧ (∀ j u, nl[j]? = some u → w.cell? (ad.add j) = some u) ∧ (∀ u ∈ nl, u.oneCell' = true) ∧
            ∀ i (_ : i < news.length) j (_ : j < news[i].cells.length), ∃ v, nl[i * ni.size + j]? = some v ∧ v.oneCell' = true ∧ RelD w Pr news[i].cells[j] v := by
          intro h0
          obtain ⟨ad, vs, hA, hcell⟩ := hsrc h0
          obtain ⟨nl, l1, l2, l3⟩ := src_list (w := w) (n := n) (sz := ni.size) (vs := vs) (ad := ad) (fun i j hi hj => (hcell i j hi hj).1)
          have hone : ∀ i (hi : i < news.length) j (hj : j < news[i].cells.length), (vs i j).oneCell' = true ∧ RelD w Pr news[i].cells[j] (vs i j) := by
            intro i hi j hj
            have hr := (hcell i j (by omega) (by rw [← hn2 i hi]; exact hj)).2 hi hj
            exact ⟨hr.one ((hnews _ (List.getElem_mem hi)).2 _ (List.getElem_mem hj)), hr⟩
          refine ⟨ad, nl, hA, l1, l2, fun u hu => ?_, fun i hi j hj => ?_⟩
          · obtain ⟨k, hk, rfl⟩ := List.getElem_of_mem hu
            have hk' : k < n * ni.size := by omega
            have hi : k / ni.size < n := by rw [Nat.div_lt_iff_lt_mul hpos]; exact hk'
            have hj := Nat.mod_lt k hpos
            have := l3 _ _ hi hj
            rw [Nat.div_add_mod'] at this
            rw [List.getElem?_eq_getElem hk] at this
            rw [Option.some.inj this]
            exact (hone _ (by omega) _ (by rw [hn2 _ (by omega)]; exact hj)).1
          · exact ⟨vs i j, l3 i j (by omega) (by rw [← hn2 i hi]; exact hj), hone i hi j hj⟩
        split at h
        · rename_i o len ee
          split at h
          · rename_i sz es fz ho
            obtain ⟨g1, hsz0, rfl, g2, g3, hK⟩ := h
            simp only at hsz0
            subst hsz0
            simp only [most, appendK.lim] at g2 g3
            rw [ee] at hs
            generalize hsv : a.eval s = sv at hs
            cases hs with
            | @msl _ _ _ A0 cap hol hc hn hh =>
              obtain ⟨a1, a2, a3⟩ := hh _ _ _ ho rfl
              simp only [Nat.zero_mul, Nat.zero_add] at a1 a3
              obtain ⟨vs, et, hv, hpre, _⟩ := (hM.ob o _ ho).pre (by simp) rfl
              have hpre0 := hpre
              obtain ⟨b1, b2, b3, b4, b5⟩ := hpre
              obtain ⟨t1, t2⟩ := arr_cells hv hpre0
              by_cases h0 : n = 0
              · have hne : news = [] := List.eq_nil_of_length_eq_zero (by omega)
                subst hne
                subst h0
                have hrun := append_none_run (w := w) (ty := type) q2 i1 (base := A0) (A := A) (c := c) hc
                simp only [List.append_nil, List.length_nil, Nat.add_zero] at hK
                exact out_append_of hM hE ho g1 hv (.inl ⟨rfl, rfl, rfl, fun _ _ => rfl⟩) hv (fun _ _ _ => rfl) rfl rfl rfl hpre0 (Nat.le_refl _) a1 hn rfl hc a3
                  (hbr _ _ (by rw [hsv, hxv]; exact hrun)) hK
              · obtain ⟨ad, nl, rfl, l1, l2, l3, l4⟩ := hlist (by omega)
                rw [← hnl] at g2 g3
                by_cases hroom : es.length + n ≤ cap
                · have hA0 : A0 = some ⟨p.bl o, 0, none⟩ := by rcases a1 with h | h; exact h; omega
                  subst hA0
                  have hst := run_storeCells_at P (p.bl o) (es.length * ni.size) et nl 0 vs w hv (by
                    rw [Nat.add_zero, l1, b1, ← Nat.add_mul]; exact Nat.mul_le_mul_right _ (by omega)) l3
                  simp only [Nat.add_zero] at hst
                  have hf := run_firstCells_some (P := P) w ni.size n ad n c nl l1 l2
                  have hrun : (Builtin.append_ #[t', t'] type #[.slice (some ⟨p.bl o, 0, none⟩) es.length cap, .slice (some ad) n c]).run P w =
                      .ok (.slice (some ⟨p.bl o, 0, none⟩) (es.length + n) cap) (w.setRow (p.bl o) (vs.toList.take (es.length * ni.size) ++ nl ++ vs.toList.drop (es.length * ni.size + nl.length)).toArray) := by
                    simp [Builtin.append_, run_underlying q2, sizeOf, typeInfo, i1, Builtin.lenOf, hroom, hf, Addr.add_lit, hst]
                  have htot : (vs.toList.take (es.length * ni.size) ++ nl ++ vs.toList.drop (es.length * ni.size + nl.length)).length = p.room o * ni.size := by
                    have : es.length * ni.size + nl.length ≤ vs.size := by rw [l1, b1, ← Nat.add_mul]; exact Nat.mul_le_mul_right _ (by omega)
                    simp only [List.length_append, t1, List.length_drop, Array.length_toList]; omega
                  exact out_append_of hM hE ho g1 hv (w' := w.setRow (p.bl o) (vs.toList.take (es.length * ni.size) ++ nl ++ vs.toList.drop (es.length * ni.size + nl.length)).toArray) (.inl ⟨rfl, rfl, by simp, fun j hj => by
                      simp only [List.getElem?_toArray, List.append_assoc]
                      rw [List.getElem?_append_left (by rw [t1]; exact hj), List.getElem?_take, if_pos hj]; simp⟩)
                    (setRow_heap w _ vs _ et _ hv) (fun k hk _ => setRow_other w _ k _ hk) rfl rfl rfl
                    (preob_append t1 (by rw [l1, hnl]) htot (by omega) b3 b4 hn2 t2 l4) (by simp) (.inl rfl) (.inr rfl) (by simp [hnl]) (by omega) a3
                    (hbr _ _ (by rw [hsv, hxv, ← hnl]; exact hrun)) hK
                · have hbytes : (es.length + n) * ni.bytes ≤ 140737488355328 := g2
                  have h63 : es.length + n ≤ maxLen := by simp only [maxLen]; omega
                  have hcm := grownCap_le_maxLen w (es.length + n) cap e h63
                  have hge := grownCap_ge w (es.length + n) cap e
                  have holds : ∀ (bA : Addr), (bA = ⟨p.bl o, 0, none⟩ ∨ cap = 0) → ∀ j v, (vs.toList.take (es.length * ni.size))[j]? = some v → w.cell? (bA.add j) = some v := by
                    intro bA hbA j v hj
                    rw [List.getElem?_take] at hj
                    split at hj
                    · rename_i hlt
                      rcases hbA with rfl | hcap
                      · rw [Addr.add_none, Nat.zero_add]
                        simp only [World.cell?, hv]
                        simpa using hj
                      · have : es.length = 0 := by omega
                        rw [this] at hlt; simp at hlt
                    · cases hj
                  have hz : (Builtin.zeroCells z.cells (grownCap w (es.length + n) cap e - (es.length + n))).toList.length = (grownCap w (es.length + n) cap e - (es.length + n)) * ni.size := by
                    simp [size_zeroCells, i6]
                  have hfin : ∀ {ww : World} {cells : Array Value}, ww = w.drew.alloc (.cells cells e) → cells = (vs.toList.take (es.length * ni.size) ++ nl ++ (Builtin.zeroCells z.cells (grownCap w (es.length + n) cap e - (es.length + n))).toList).toArray →
                      (Builtin.append_ #[t', t'] type #[.slice A0 es.length cap, .slice (some ad) n c]).run P w = .ok (.slice (some ⟨w.heap.size, 0, none⟩) (es.length + n) (grownCap w (es.length + n) cap e)) ww →
                      Out nF w Pr p st a.tmps K ((builtin .append #[t', t'] type (#[s, x].map fun | .const _ => true | _ => false) (#[s, x].map a.eval)).run P w) := by
                    intro ww cells e1 e2 hrun
                    subst e1; subst e2
                    refine out_append_of hM hE ho g1 hv (w' := w.drew.alloc (.cells _ e)) (b := w.heap.size) (room := grownCap w (es.length + n) cap e) (.inr ⟨rfl, by show (w.heap.push _).size = _; simp⟩) (heap_alloc_new w.drew _) (fun k _ hk => heap_alloc_old w.drew _ k hk) rfl rfl rfl
                      (preob_append t1 (by rw [l1, hnl]) ?_ (by omega) hcm b4 hn2 t2 l4) (by simp) (.inl rfl) (.inr rfl) (by simp [hnl]) (by omega) (Nat.le_refl _)
                      (hbr _ _ (by rw [hsv, hxv, ← hnl]; exact hrun)) hK
                    simp only [List.length_append, t1, l1, hz, ← Nat.add_mul]
                    congr 1; omega
                  cases A0 with
                  | some bA =>
                    have hrun := run_append_grow (P := P) w t' type e ni z q2 i1 i3 bA es.length cap (vs.toList.take (es.length * ni.size)) t1
                      (holds bA (by rcases a1 with h | h; exact .inl (Option.some.inj h); exact .inr h)) ad n c nl l1 l2 (by omega) (by omega) (growslice_fits (by omega) hbytes)
                    exact hfin rfl (by simp) hrun
                  | none =>
                    have hc0 : cap = 0 := by rcases a1 with h | h; cases h; exact h
                    have hes : es.length = 0 := by omega
                    subst hc0
                    have hes' : es = [] := List.eq_nil_of_length_eq_zero hes
                    subst hes'
                    have hrun := run_append_nil (P := P) w t' type e ni z q2 i1 i3 ad n c nl l1 l2 (by omega) (by omega) (by simp at hbytes; omega)
                    refine hfin rfl ?_ (by simpa using hrun)
                    simp
          · exact h.elim
        · rename_i ee
          obtain ⟨hK0, hK1⟩ := h
          rw [ee] at hs
          by_cases h0 : n = 0
          · have hne : news = [] := List.eq_nil_of_length_eq_zero (by omega)
            subst h0
            have hrun := append_none_run (w := w) (ty := type) q2 i1 (base := none) (A := A) (c := c) (Nat.le_refl 0)
            exact .pure hM hE (hK0 hne) (hbr _ _ (by rw [hs.val, hxv]; exact hrun)) (.d (.val _))
          · have hne : news ≠ [] := by rintro rfl; simp at hnl; exact h0 hnl
            obtain ⟨g2, g3, hK⟩ := hK1 hne
            simp only [most, appendK.lim] at g2 g3
            obtain ⟨ad, nl, rfl, l1, l2, l3, l4⟩ := hlist (by omega)
            rw [← hnl] at g2 g3
            have hcm := grownCap_le_maxLen w n 0 e (by simp only [maxLen]; omega)
            have hge := grownCap_ge w n 0 e
            have hrun := run_append_nil (P := P) w t' type e ni z q2 i1 i3 ad n c nl l1 l2 (by omega) (by omega) (by omega)
            have hz : (Builtin.zeroCells z.cells (grownCap w n 0 e - n)).toList.length = (grownCap w n 0 e - n) * ni.size := by simp [size_zeroCells, i6]
            have hcells : nl.toArray ++ Builtin.zeroCells z.cells (grownCap w n 0 e - n) = (([] : List Value) ++ nl ++ (Builtin.zeroCells z.cells (grownCap w n 0 e - n)).toList).toArray := by simp
            rw [hcells] at hrun
            refine out_push (w' := w.drew.alloc (.cells _ e)) (et := e) (room := grownCap w n 0 e) (ob := .arr ni.size ([] ++ news) false) (u := .slice (some ⟨w.heap.size, 0, none⟩) n (grownCap w n 0 e))
              hM hE hnF (heap_drew_alloc _ _) rfl rfl rfl
              (preob_append (pre := []) (by simp) (by rw [l1, hnl]) ?_ (by simp; omega) hcm (by simp) hn2 (by simp) l4) rfl (hbr _ _ (by rw [hs.val, hxv]; exact hrun)) ?_ (by simpa [hnl] using hK)
            · simp only [List.nil_append, List.length_append, l1, hz, ← Nat.add_mul]
              congr 1; omega
            · rw [← hnl]
              refine .msl (by simp) hge (.inr rfl) fun ob2 sz2 n2 ho hal => ?_
              simp at ho
              subst ho
              simp only [Ob.al, Option.some.injEq, Prod.mk.injEq] at hal
              obtain ⟨rfl, rfl⟩ := hal
              simp [Place.at, hnl]
        · exact h.elim
      · exact h.elim
    · exact h.elim
  · exact h.elim

end
end Go.PL

/- PlTree -/
/- Arrays that own what they hold: what may be said of them without a step of the machine. -/
namespace Go.PL
open Go

section
variable {nF : Nat} {w : World} {Pr : Pro} {p : Place} {os : List Ob}

def Place.clear (p : Place) (o : Nat) : Place := ⟨p.bl, p.room, fun k => match p.ow k with | some (q, c) => if q = o then none else some (q, c) | none => none⟩

theorem Place.clear_ow {o k q c : Nat} : (p.clear o).ow k = some (q, c) ↔ p.ow k = some (q, c) ∧ q ≠ o := by
  simp only [Place.clear]
  cases p.ow k with
  | none => simp
  | some x =>
    obtain ⟨q', c'⟩ := x
    by_cases e : q' = o
    · simp only [if_pos e, reduceCtorEq, Option.some.injEq, Prod.mk.injEq, false_iff]
      rintro ⟨⟨rfl, _⟩, h⟩; exact h e
    · simp only [if_neg e, Option.some.injEq, Prod.mk.injEq]
      exact ⟨fun h => ⟨h, fun e2 => e (h.1.trans e2)⟩, fun h => h.1⟩

theorem get_lt {o : Nat} {ob : Ob} (h : os[o]? = some ob) : o < os.length := by
  rcases Nat.lt_or_ge o os.length with h1 | h1
  · exact h1
  · rw [List.getElem?_eq_none h1] at h; cases h

theorem g_toTree (hM : Mem w Pr p os) (hnF : nF ≤ os.length) {o sz : Nat} {es : List D} (ho : os[o]? = some (.arr sz es false)) (hf : (es.all fun e => e.cells.all D.fl1) = true) :
    Moved nF w w Pr Pr p (p.clear o) os (os.set o (.tree sz (es.map .d))) ∧ Cmp p (p.clear o) os (os.set o (.tree sz (es.map .d))) := by
  have hcmp : Cmp p (p.clear o) os (os.set o (.tree sz (es.map .d))) := by
    refine ⟨by simp, fun k x hk h hdx => ?_, fun k x sz2 n' hk h h' => ?_⟩
    · rcases os_get_set h with ⟨_, g⟩ | ⟨rfl, _, rfl⟩
      · exact ⟨x, g, hdx, rfl, rfl, rfl⟩
      · exact ⟨_, ho, by simp, rfl, rfl, rfl⟩
    · rcases os_get_set h with ⟨_, g⟩ | ⟨rfl, _, rfl⟩
      · exact ⟨x, n', g, h', Nat.le_refl _⟩
      · exact ⟨_, n', ho, by simpa [Ob.al] using h', Nat.le_refl _⟩
  refine ⟨⟨⟨.refl _ _, Frm.refl _ _ _, fun b i hp => .inl hp, by simp, fun k x hk h hdx => hcmp.live k x (by omega) h hdx, fun k x sz n' hk h h' => hcmp.arr k x sz n' (by omega) h h', ?_⟩, ?_⟩, hcmp⟩
  · rintro k ⟨q, x, h, hdx, h9⟩
    rcases os_get_set h with ⟨_, g⟩ | ⟨rfl, _, rfl⟩
    · exact .inr ⟨q, x, g, hdx, h9.imp_right fun ⟨a, c, h⟩ => ⟨a, c, (Place.clear_ow.1 h).1⟩⟩
    · rcases h9 with h9 | ⟨_, c, h9⟩
      · exact .inr ⟨q, _, ho, by simp, .inl h9⟩
      · exact absurd rfl (Place.clear_ow.1 h9).2
  · refine ⟨hM.prIn, fun k x h hdx => ?_, fun k k' a b ha hb hda hdb e => ?_, fun k x h => ?_, fun q x k c h ht hk => ?_⟩
    · rcases os_get_set h with ⟨_, g⟩ | ⟨rfl, _, rfl⟩
      · exact hM.blk k x g hdx
      · exact hM.blk _ _ ho (by simp)
    · rcases os_get_set ha with ⟨n1, q1⟩ | ⟨rfl, _, rfl⟩ <;> rcases os_get_set hb with ⟨n2, q2⟩ | ⟨rfl, _, rfl⟩
      · exact hM.inj k k' a b q1 q2 hda hdb e
      · exact hM.inj k k' a _ q1 ho hda (by simp) e
      · exact hM.inj _ k' _ b ho q2 (by simp) hdb e
      · rfl
    · rcases os_get_set h with ⟨n1, g⟩ | ⟨rfl, _, rfl⟩
      · exact ObRel.mono (.refl _ _) hcmp (fun hdx => ⟨rfl, rfl, rfl, fun _ => .rfl⟩) (fun ht b c hb => ⟨Place.clear_ow.2 ⟨hb, n1⟩, rfl⟩) (hM.ob k x g)
      · obtain ⟨vs, et, g1, g2, g3, g4, g5, g6, g7⟩ := hM.ob k _ ho
        refine ⟨vs, et, g1, g2, by simpa [Place.clear] using g3, g4, fun i hi => ?_, fun i hi j hj => ?_, fun j hj => by have := (g7 j).1 hj; cases this.1⟩
        · simp only [List.length_map] at hi
          simpa [V.cells] using g5 i hi
        · simp only [List.length_map] at hi
          simp only [List.getElem_map, V.cells, List.length_map] at hj ⊢
          obtain ⟨v, k1, k2, k3⟩ := g6 i hi j hj
          refine ⟨v, k1, k2, D.fl1_tr ?_ k3 _ _⟩
          have := List.all_eq_true.1 hf _ (List.getElem_mem hi)
          exact List.all_eq_true.1 this _ (List.getElem_mem hj)
    · obtain ⟨h1, h2⟩ := Place.clear_ow.1 hk
      rcases os_get_set h with ⟨_, g⟩ | ⟨rfl, _, rfl⟩
      · obtain ⟨a1, a2, a3⟩ := hM.own q x k c g ht h1
        refine ⟨a1, a2, fun o' ob2 h4 h5 => ?_⟩
        rcases os_get_set h4 with ⟨_, q2⟩ | ⟨rfl, _, rfl⟩
        · exact a3 o' ob2 q2 h5
        · exact a3 _ _ ho (by simp)
      · exact absurd rfl h2

theorem g_ofTree (hM : Mem w Pr p os) (hnF : nF ≤ os.length) {o sz : Nat} {es : List D} (ho : os[o]? = some (.tree sz (es.map .d))) (hf : (es.all fun e => e.cells.all D.fl1) = true) :
    Moved nF w w Pr Pr p p os (os.set o (.arr sz es false)) ∧ Cmp p p os (os.set o (.arr sz es false)) := by
  have hcmp : Cmp p p os (os.set o (.arr sz es false)) := by
    refine ⟨by simp, fun k x hk h hdx => ?_, fun k x sz2 n' hk h h' => ?_⟩
    · rcases os_get_set h with ⟨_, g⟩ | ⟨rfl, _, rfl⟩
      · exact ⟨x, g, hdx, rfl, rfl, rfl⟩
      · exact ⟨_, ho, by simp, rfl, rfl, rfl⟩
    · rcases os_get_set h with ⟨_, g⟩ | ⟨rfl, _, rfl⟩
      · exact ⟨x, n', g, h', Nat.le_refl _⟩
      · exact ⟨_, n', ho, by simpa [Ob.al] using h', Nat.le_refl _⟩
  refine ⟨⟨⟨.refl _ _, Frm.refl _ _ _, fun b i hp => .inl hp, by simp, fun k x hk h hdx => hcmp.live k x (by omega) h hdx, fun k x sz n' hk h h' => hcmp.arr k x sz n' (by omega) h h', ?_⟩, ?_⟩, hcmp⟩
  · rintro k ⟨q, x, h, hdx, h9⟩
    rcases os_get_set h with ⟨_, g⟩ | ⟨rfl, _, rfl⟩
    · exact .inr ⟨q, x, g, hdx, h9⟩
    · rcases h9 with h9 | ⟨h9, _⟩
      · exact .inr ⟨q, _, ho, by simp, .inl h9⟩
      · cases h9
  · refine ⟨hM.prIn, fun k x h hdx => ?_, fun k k' a b ha hb hda hdb e => ?_, fun k x h => ?_, fun q x k c h ht hk => ?_⟩
    · rcases os_get_set h with ⟨_, g⟩ | ⟨rfl, _, rfl⟩
      · exact hM.blk k x g hdx
      · exact hM.blk _ _ ho (by simp)
    · rcases os_get_set ha with ⟨n1, q1⟩ | ⟨rfl, _, rfl⟩ <;> rcases os_get_set hb with ⟨n2, q2⟩ | ⟨rfl, _, rfl⟩
      · exact hM.inj k k' a b q1 q2 hda hdb e
      · exact hM.inj k k' a _ q1 ho hda (by simp) e
      · exact hM.inj _ k' _ b ho q2 (by simp) hdb e
      · rfl
    · rcases os_get_set h with ⟨n1, g⟩ | ⟨rfl, _, rfl⟩
      · exact ObRel.mono (.refl _ _) hcmp (fun hdx => ⟨rfl, rfl, rfl, fun _ => .rfl⟩) (fun _ b c hb => ⟨hb, rfl⟩) (hM.ob k x g)
      · obtain ⟨vs, et, g1, g2, g3, g4, g5, g6, g7⟩ := hM.ob k _ ho
        refine ⟨vs, et, g1, g2, by simpa using g3, g4, fun i hi => ?_, fun i hi j hj => ?_, fun j => ⟨fun hj => absurd hj (g7 j), fun h => by cases h.1⟩⟩
        · have := g5 i (by simpa using hi)
          simp only [List.getElem_map, V.cells, List.length_map] at this
          exact this
        · obtain ⟨v, k1, k2, k3⟩ := g6 i (by simpa using hi) j (by simpa [V.cells] using hj)
          simp only [List.getElem_map, V.cells, RelC] at k3
          refine ⟨v, k1, k2, D.fl1_rel ?_ k3⟩
          have := List.all_eq_true.1 hf _ (List.getElem_mem hi)
          exact List.all_eq_true.1 this _ (List.getElem_mem hj)
    · rcases os_get_set h with ⟨_, g⟩ | ⟨rfl, _, rfl⟩
      · obtain ⟨a1, a2, a3⟩ := hM.own q x k c g ht hk
        refine ⟨a1, a2, fun o' ob2 h4 h5 => ?_⟩
        rcases os_get_set h4 with ⟨_, q2⟩ | ⟨rfl, _, rfl⟩
        · exact a3 o' ob2 q2 h5
        · exact a3 _ _ ho (by simp)
      · cases ht

theorem two_at {sz m j' e j : Nat} (h1 : j' < sz) (h2 : j < sz) (h : m * sz + j' = e * sz + j) : m = e ∧ j' = j := by
  rcases Nat.lt_trichotomy m e with r3 | r3 | r3
  · have := Nat.mul_le_mul_right sz (show m + 1 ≤ e by omega)
    rw [Nat.succ_mul] at this; omega
  · subst r3; exact ⟨rfl, by omega⟩
  · have := Nat.mul_le_mul_right sz (show e + 1 ≤ m by omega)
    rw [Nat.succ_mul] at this; omega

/-- The cells of an element, one of them turned. -/
theorem set_cells {es : List V} {e j : Nat} {y : V} (he : e < es.length) {sz : Nat} (hs : ∀ i (_ : i < es.length), es[i].cells.length = sz) (hj : j < sz) (hy : y.one = true) :
    (∀ i (_ : i < (es.set e (setV (gv es e) j [y])).length), (es.set e (setV (gv es e) j [y]))[i].cells.length = sz) ∧
    ∀ i (hi : i < (es.set e (setV (gv es e) j [y])).length) j' (hj' : j' < (es.set e (setV (gv es e) j [y]))[i].cells.length),
      (i = e ∧ j' = j ∧ (es.set e (setV (gv es e) j [y]))[i].cells[j'] = y) ∨ (¬ (i = e ∧ j' = j) ∧ ∃ (hi2 : i < es.length) (hj2 : j' < es[i].cells.length), (es.set e (setV (gv es e) j [y]))[i].cells[j'] = es[i].cells[j']) := by
  have hgd : gv es e = es[e] := by simp [gv, he]
  obtain ⟨n1, n2⟩ := setV_cells (v := es[e]) (j := j) (xs := [y]) (by simp [hs e he]; omega) (by simp) (by simp [hy])
  have h1 : ∀ i (_ : i < (es.set e (setV (gv es e) j [y])).length), (es.set e (setV (gv es e) j [y]))[i].cells.length = sz := by
    intro i hi
    simp only [List.length_set] at hi
    rw [List.getElem_set]; split
    · rw [hgd, n1, hs e he]
    · exact hs i hi
  refine ⟨h1, fun i hi j' hj' => ?_⟩
  have hi2 := hi
  simp only [List.length_set] at hi2
  have hj2 := hj'
  rw [h1 i hi] at hj2
  by_cases hr : i = e ∧ j' = j
  · obtain ⟨rfl, rfl⟩ := hr
    refine .inl ⟨rfl, rfl, ?_⟩
    apply Option.some.inj
    rw [← List.getElem?_eq_getElem]
    simp only [List.getElem_set_self]
    rw [hgd, n2, if_pos (by simp)]; simp
  · refine .inr ⟨hr, hi2, by rw [hs i hi2]; exact hj2, ?_⟩
    apply Option.some.inj
    rw [← List.getElem?_eq_getElem, ← List.getElem?_eq_getElem, List.getElem_set]
    split
    · rename_i h; subst h
      rw [hgd, n2, if_neg]
      simp only [List.length_cons, List.length_nil]
      rintro ⟨a, b⟩; exact hr ⟨rfl, by omega⟩
    · rfl

def Place.out (p : Place) (o x q b room : Nat) (col : Nat → Nat) : Place :=
  ⟨fun k => if k = q then b else p.bl k, fun k => if k = q then room else p.room k,
    fun k => if k = b then none else match p.ow k with
      | some (r, c) => if r = o ∧ c = x then some (q, col k) else if r = q then none else some (r, c)
      | none => none⟩

theorem Place.out_ow {o x q b room : Nat} {col : Nat → Nat} {k r c : Nat} (hne : q ≠ o) :
    (p.out o x q b room col).ow k = some (r, c) ↔ k ≠ b ∧ ((r = q ∧ p.ow k = some (o, x) ∧ c = col k) ∨ (r ≠ q ∧ ¬ (r = o ∧ c = x) ∧ p.ow k = some (r, c))) := by
  simp only [Place.out]
  by_cases hb : k = b
  · simp [hb]
  · simp only [if_neg hb, ne_eq, hb, not_false_eq_true, true_and]
    cases hk : p.ow k with
    | none => simp
    | some y =>
      obtain ⟨r', c'⟩ := y
      have inj : ∀ {a b a' b' : Nat}, (some (a, b) = some (a', b')) ↔ (a = a' ∧ b = b') := fun {a b a' b'} => ⟨fun h => by cases h; exact ⟨rfl, rfl⟩, fun h => by rw [h.1, h.2]⟩
      by_cases h1 : r' = o ∧ c' = x
      · show (if r' = o ∧ c' = x then some (q, col k) else if r' = q then none else some (r', c')) = some (r, c) ↔ _
        rw [if_pos h1]
        obtain ⟨rfl, rfl⟩ := h1
        constructor
        · intro h; cases h; exact .inl ⟨rfl, rfl, rfl⟩
        · rintro (⟨rfl, _, rfl⟩ | ⟨_, h, h2⟩)
          · rfl
          · cases h2; exact absurd ⟨rfl, rfl⟩ h
      · show (if r' = o ∧ c' = x then some (q, col k) else if r' = q then none else some (r', c')) = some (r, c) ↔ _
        rw [if_neg h1]
        by_cases h2 : r' = q
        · rw [if_pos h2]
          subst h2
          constructor
          · intro h; cases h
          · rintro (⟨_, h3, _⟩ | ⟨h3, _, h4⟩)
            · cases h3; exact absurd ⟨rfl, rfl⟩ h1
            · cases h4; exact absurd rfl h3
        · rw [if_neg h2]
          constructor
          · intro h; cases h; exact .inr ⟨h2, h1, rfl⟩
          · rintro (⟨_, h3, _⟩ | ⟨_, _, h3⟩)
            · cases h3; exact absurd ⟨rfl, rfl⟩ h1
            · exact h3

theorem g_unfold (hM : Mem w Pr p os) (hnF : nF ≤ os.length) {o e j sz n : Nat} {es : List V} {xs : List D} (ho : os[o]? = some (.tree sz es)) (he : e < es.length) (hj : (gv es e).cells[j]? = some (.d (.sl xs))) (hx : xs ≠ [])
    (hn : ∀ x ∈ xs, x.cells.length = n) : ∃ p', Moved nF w w Pr Pr p p' os (os.set o (.tree sz (es.set e (setV (gv es e) j [.msl os.length 0 xs.length]))) ++ [.tree n (xs.map .d)]) ∧
      Cmp p p' os (os.set o (.tree sz (es.set e (setV (gv es e) j [.msl os.length 0 xs.length]))) ++ [.tree n (xs.map .d)]) := by
  have hol := get_lt ho
  obtain ⟨vs, et, g1, g2, g3, g4, g5, g6, g7⟩ := hM.ob o _ ho
  have hgd : gv es e = es[e] := by simp [gv, he]
  rw [hgd] at hj
  obtain ⟨hj1, hj2⟩ := List.getElem?_eq_some_iff.1 hj
  have hjs : j < sz := by rw [← g5 e he]; exact hj1
  obtain ⟨v, k1, k2, k3⟩ := g6 e he j hj1
  rw [hj2] at k3
  simp only [RelC] at k3
  have hown := fun k c h => hM.own o _ k c ho rfl h
  cases k3 with
  | nil => exact absurd rfl hx
  | sl _ b cap room sz' vs' et' col u hb hw hs h1 h2 h3 hsz hc hr =>
  have hne : os.length ≠ o := by omega
  obtain ⟨b1, b2, b3⟩ := hown b _ hb
  have hnn : sz' = n := by
    cases xs with
    | nil => exact absurd rfl hx
    | cons x r => rw [← hsz 0 (by simp)]; exact hn x (by simp)
  subst hnn
  obtain ⟨c1, c2⟩ := set_cells (y := .msl os.length 0 xs.length) he g5 hjs rfl
  generalize hes : es.set e (setV (gv es e) j [.msl os.length 0 xs.length]) = es' at c1 c2
  have hlen : es'.length = es.length := by rw [← hes]; simp
  let p' := p.out o (e * sz + j) os.length b room col
  have hpl : ∀ k, k < os.length → p'.bl k = p.bl k ∧ p'.room k = p.room k := fun k hk => by
    have : k ≠ os.length := by omega
    simp [p', Place.out, this]
  have hpn : p'.bl os.length = b ∧ p'.room os.length = room := by simp [p', Place.out]
  have how : ∀ {k r c : Nat}, p'.ow k = some (r, c) ↔ k ≠ b ∧ ((r = os.length ∧ p.ow k = some (o, e * sz + j) ∧ c = col k) ∨ (r ≠ os.length ∧ ¬ (r = o ∧ c = e * sz + j) ∧ p.ow k = some (r, c))) := Place.out_ow hne
  have get : ∀ {k : Nat} {x : Ob}, (os.set o (.tree sz es') ++ [.tree sz' (xs.map .d)])[k]? = some x → (k < os.length ∧ k ≠ o ∧ os[k]? = some x) ∨ (k = o ∧ x = .tree sz es') ∨ (k = os.length ∧ x = .tree sz' (xs.map .d)) := by
    intro k x h
    rcases os_get_push h with ⟨q1, q2⟩ | ⟨q1, q2⟩
    · rcases os_get_set q2 with ⟨q3, q4⟩ | ⟨q3, _, q4⟩
      · exact .inl ⟨by simpa using q1, q3, q4⟩
      · exact .inr (.inl ⟨q3, q4⟩)
    · exact .inr (.inr ⟨by simpa using q1, q2⟩)
  have hcmp : Cmp p p' os (os.set o (.tree sz es') ++ [.tree sz' (xs.map .d)]) := by
    refine ⟨by simp, fun k x hk h hdx => ?_, fun k x sz2 n' hk h h' => ?_⟩
    · rcases get h with ⟨q1, q2, q3⟩ | ⟨rfl, rfl⟩ | ⟨q1, _⟩
      · exact ⟨x, q3, hdx, (hpl k hk).1, (hpl k hk).2, rfl⟩
      · exact ⟨_, ho, by simp, (hpl k hk).1, (hpl k hk).2, rfl⟩
      · omega
    · rcases get h with ⟨q1, q2, q3⟩ | ⟨rfl, rfl⟩ | ⟨q1, _⟩
      · exact ⟨x, n', q3, h', Nat.le_refl _⟩
      · simp only [Ob.al, Option.some.injEq, Prod.mk.injEq] at h'
        exact ⟨_, es.length, ho, by simp [Ob.al, h'.1], by omega⟩
      · omega
  refine ⟨p', ⟨⟨.refl _ _, Frm.refl _ _ _, fun b i hp => .inl hp, by simp, fun k x hk h hdx => hcmp.live k x (by omega) h hdx, fun k x sz n' hk h h' => hcmp.arr k x sz n' (by omega) h h', ?_⟩, ?_⟩, hcmp⟩
  · rintro k ⟨r, x, h, hdx, h9⟩
    refine .inr ?_
    rcases get h with ⟨q1, q2, q3⟩ | ⟨rfl, rfl⟩ | ⟨rfl, rfl⟩
    · rw [(hpl r q1).1] at h9
      refine ⟨r, x, q3, hdx, h9.imp_right fun ⟨a, c, h⟩ => ⟨a, c, ?_⟩⟩
      rcases (how.1 h).2 with ⟨e1, _⟩ | ⟨_, _, e1⟩
      · omega
      · exact e1
    · rw [(hpl r hol).1] at h9
      refine ⟨r, _, ho, by simp, h9.imp_right fun ⟨a, c, h⟩ => ⟨rfl, c, ?_⟩⟩
      rcases (how.1 h).2 with ⟨e1, _⟩ | ⟨_, _, e1⟩
      · omega
      · exact e1
    · rw [hpn.1] at h9
      rcases h9 with rfl | ⟨_, c, h⟩
      · exact ⟨o, _, ho, by simp, .inr ⟨rfl, _, hb⟩⟩
      · rcases (how.1 h).2 with ⟨_, e1, _⟩ | ⟨e1, _⟩
        · exact ⟨o, _, ho, by simp, .inr ⟨rfl, _, e1⟩⟩
        · exact absurd rfl e1
  · refine ⟨hM.prIn, fun k x h hdx => ?_, fun k k' a c ha hc' hda hdc e => ?_, fun k x h => ?_, fun r x k c h ht hk => ?_⟩
    · rcases get h with ⟨q1, q2, q3⟩ | ⟨rfl, rfl⟩ | ⟨rfl, rfl⟩
      · rw [(hpl k q1).1]; exact hM.blk k x q3 hdx
      · rw [(hpl k hol).1]; exact hM.blk _ _ ho (by simp)
      · rw [hpn.1]; exact b1.lt
    · rcases get ha with ⟨q1, q2, q3⟩ | ⟨rfl, rfl⟩ | ⟨rfl, rfl⟩ <;> rcases get hc' with ⟨r1, r2, r3⟩ | ⟨rfl, rfl⟩ | ⟨rfl, rfl⟩
      · rw [(hpl k q1).1, (hpl k' r1).1] at e; exact hM.inj k k' a c q3 r3 hda hdc e
      · rw [(hpl k q1).1, (hpl k' hol).1] at e; exact hM.inj k k' a _ q3 ho hda (by simp) e
      · rw [(hpl k q1).1, hpn.1] at e; exact absurd e (b3 k a q3 hda)
      · rw [(hpl k hol).1, (hpl k' r1).1] at e; exact hM.inj k k' _ c ho r3 (by simp) hdc e
      · rfl
      · rw [(hpl k hol).1, hpn.1] at e; exact absurd e (b3 k _ ho (by simp))
      · rw [hpn.1, (hpl k' r1).1] at e; exact absurd e.symm (b3 k' c r3 hdc)
      · rw [hpn.1, (hpl k' hol).1] at e; exact absurd e.symm (b3 k' _ ho (by simp))
      · rfl
    · rcases get h with ⟨q1, q2, q3⟩ | ⟨rfl, rfl⟩ | ⟨rfl, rfl⟩
      · refine ObRel.mono (.refl _ _) hcmp (fun hdx => ⟨(hpl k q1).1, (hpl k q1).2, rfl, fun _ => .rfl⟩) (fun ht k2 c h2 => ⟨how.2 ⟨?_, .inr ⟨by omega, fun e => q2 e.1, h2⟩⟩, rfl⟩) (hM.ob k x q3)
        rintro rfl
        rw [hb] at h2; cases h2; exact q2 rfl
      · refine ⟨vs, et, by rw [(hpl k hol).1]; exact g1, by rw [(hpl k hol).2]; exact g2, by rw [(hpl k hol).2]; omega, by rw [(hpl k hol).2]; exact g4, c1, fun i hi j' hj' => ?_, fun i => by rw [(hpl k hol).1]; exact g7 i⟩
        rcases c2 i hi j' hj' with ⟨rfl, rfl, e1⟩ | ⟨e0, hi2, hj3, e1⟩
        · refine ⟨_, k1, k2, ?_⟩
          rw [e1]
          refine RelV.msl (by simp) h1 (.inr rfl) fun ob2 sz2 n2 ho2 hal2 => ?_
          rcases get ho2 with ⟨q1, _, _⟩ | ⟨q1, _⟩ | ⟨_, rfl⟩
          · omega
          · omega
          · simp only [Ob.al, List.length_map, Option.some.injEq, Prod.mk.injEq] at hal2
            rw [hpn.1, hpn.2]
            exact ⟨.inl (by simp), by omega, by omega⟩
        · obtain ⟨v2, z1, z2, z3⟩ := g6 i hi2 j' hj3
          refine ⟨v2, z1, z2, ?_⟩
          rw [e1]
          refine z3.cmp (.refl _ _) hcmp fun k2 h2 => ⟨how.2 ⟨?_, .inr ⟨by omega, fun e2 => e0 (two_at (by rw [← g5 i hi2]; exact hj3) hjs e2.2), h2⟩⟩, rfl⟩
          rintro rfl
          rw [hb] at h2
          simp only [Option.some.injEq, Prod.mk.injEq, true_and] at h2
          exact e0 (two_at (by rw [← g5 i hi2]; exact hj3) hjs h2.symm)
      · refine ⟨vs', et', by rw [hpn.1]; exact hw, by rw [hpn.2]; exact hs, by rw [hpn.2]; simp; omega, by rw [hpn.2]; exact h3, fun i hi => ?_, fun i hi j' hj' => ?_, fun i => by rw [hpn.1]; exact b2 i⟩
        · simp only [List.length_map] at hi
          simpa [V.cells] using hsz i hi
        · simp only [List.length_map] at hi
          simp only [List.getElem_map, V.cells, List.length_map] at hj' ⊢
          obtain ⟨y1, y2⟩ := hc i j' hi (by rw [← hsz i hi]; exact hj')
          exact ⟨_, y1, y2, Tr.mono (hr i hi j' hj') fun k2 h2 => ⟨how.2 ⟨h2.2.1, .inl ⟨rfl, h2.1, h2.2.2.symm⟩⟩, rfl⟩⟩
    · obtain ⟨hkb, hk2⟩ := how.1 hk
      have key : isC w k ∧ (∀ i, ¬ Pr k i) ∧ ∀ o' ob', os[o']? = some ob' → ob' ≠ .dead → p.bl o' ≠ k := by
        rcases hk2 with ⟨_, h2, _⟩ | ⟨h0, _, h2⟩
        · exact hown k _ h2
        · rcases get h with ⟨q1, q2, q3⟩ | ⟨rfl, rfl⟩ | ⟨q1, _⟩
          · exact hM.own r x k c q3 ht h2
          · exact hown k _ h2
          · exact absurd q1 h0
      refine ⟨key.1, key.2.1, fun o' ob' h4 h5 => ?_⟩
      rcases get h4 with ⟨q1, q2, q3⟩ | ⟨rfl, rfl⟩ | ⟨rfl, rfl⟩
      · rw [(hpl o' q1).1]; exact key.2.2 o' ob' q3 h5
      · rw [(hpl o' hol).1]; exact key.2.2 o' _ ho (by simp)
      · rw [hpn.1]; exact Ne.symm hkb

def Place.into (p : Place) (o x q : Nat) : Place :=
  ⟨p.bl, p.room, fun k => if k = p.bl q then some (o, x) else match p.ow k with | some (r, c) => if r = q then some (o, x) else some (r, c) | none => none⟩

theorem Place.into_ow {o x q k r c : Nat} : (p.into o x q).ow k = some (r, c) → (k = p.bl q ∧ r = o ∧ c = x) ∨ (∃ c', p.ow k = some (q, c') ∧ r = o ∧ c = x) ∨ (p.ow k = some (r, c) ∧ r ≠ q) := by
  simp only [Place.into]
  by_cases hb : k = p.bl q
  · simp only [if_pos hb, Option.some.injEq, Prod.mk.injEq]
    rintro ⟨rfl, rfl⟩; exact .inl ⟨hb, rfl, rfl⟩
  · simp only [if_neg hb]
    cases hk : p.ow k with
    | none => simp
    | some y =>
      obtain ⟨r', c'⟩ := y
      show (if r' = q then some (o, x) else some (r', c')) = some (r, c) → _
      by_cases h2 : r' = q
      · subst h2
        rw [if_pos rfl]
        intro h; cases h; exact .inr (.inl ⟨c', rfl, rfl, rfl⟩)
      · rw [if_neg h2]
        intro h; cases h; exact .inr (.inr ⟨rfl, h2⟩)

theorem Place.into_keep {o x q k r c : Nat} (h : p.ow k = some (r, c)) (h1 : k ≠ p.bl q) (h2 : r ≠ q) : (p.into o x q).ow k = some (r, c) := by
  simp only [Place.into, if_neg h1, h, if_neg h2]

theorem g_fold (hM : Mem w Pr p os) (hnF : nF ≤ os.length) {o e j q len sz n : Nat} {es : List V} {xs : List D} (ho : os[o]? = some (.tree sz es)) (he : e < es.length) (hj : (gv es e).cells[j]? = some (.msl q 0 len)) (hxl : len ≤ xs.length)
    (hq : os[q]? = some (.tree n (xs.map .d))) (hne : q ≠ o) : ∃ p', Moved nF w w Pr Pr p p' os ((os.set o (.tree sz (es.set e (setV (gv es e) j [.d (.sl (xs.take len))])))).set q .dead) ∧
      Cmp p p' os ((os.set o (.tree sz (es.set e (setV (gv es e) j [.d (.sl (xs.take len))])))).set q .dead) := by
  have hol := get_lt ho
  obtain ⟨vs, et, g1, g2, g3, g4, g5, g6, g7⟩ := hM.ob o _ ho
  have hgd : gv es e = es[e] := by simp [gv, he]
  rw [hgd] at hj
  obtain ⟨hj1, hj2⟩ := List.getElem?_eq_some_iff.1 hj
  have hjs : j < sz := by rw [← g5 e he]; exact hj1
  obtain ⟨v, k1, k2, k3⟩ := g6 e he j hj1
  rw [hj2] at k3
  simp only [RelC] at k3
  obtain ⟨qs, qt, q1, q2, q3, q4, q5, q6, q7⟩ := hM.ob q _ hq
  obtain ⟨c1, c2⟩ := set_cells (y := .d (.sl (xs.take len))) he g5 hjs rfl
  generalize hes : es.set e (setV (gv es e) j [.d (.sl (xs.take len))]) = es' at c1 c2
  have hlen : es'.length = es.length := by rw [← hes]; simp
  let p' := p.into o (e * sz + j) q
  have get : ∀ {k : Nat} {x : Ob}, ((os.set o (.tree sz es')).set q .dead)[k]? = some x → (k ≠ q ∧ k ≠ o ∧ os[k]? = some x) ∨ (k = o ∧ x = .tree sz es') ∨ (k = q ∧ x = .dead) := by
    intro k x h
    rcases os_get_set h with ⟨r1, r2⟩ | ⟨r1, _, r2⟩
    · rcases os_get_set r2 with ⟨r3, r4⟩ | ⟨r3, _, r4⟩
      · exact .inl ⟨r1, r3, r4⟩
      · exact .inr (.inl ⟨r3, r4⟩)
    · exact .inr (.inr ⟨r1, r2⟩)
  have hcmp : Cmp p p' os ((os.set o (.tree sz es')).set q .dead) := by
    refine ⟨by simp, fun k x hk h hdx => ?_, fun k x sz2 n' hk h h' => ?_⟩
    · rcases get h with ⟨_, _, r3⟩ | ⟨rfl, rfl⟩ | ⟨rfl, rfl⟩
      · exact ⟨x, r3, hdx, rfl, rfl, rfl⟩
      · exact ⟨_, ho, by simp, rfl, rfl, rfl⟩
      · exact absurd rfl hdx
    · rcases get h with ⟨_, _, r3⟩ | ⟨rfl, rfl⟩ | ⟨rfl, rfl⟩
      · exact ⟨x, n', r3, h', Nat.le_refl _⟩
      · simp only [Ob.al, Option.some.injEq, Prod.mk.injEq] at h'
        exact ⟨_, es.length, ho, by simp [Ob.al, h'.1], by omega⟩
      · cases h'
  refine ⟨p', ⟨⟨.refl _ _, Frm.refl _ _ _, fun b i hp => .inl hp, by simp, fun k x hk h hdx => hcmp.live k x (by omega) h hdx, fun k x sz n' hk h h' => hcmp.arr k x sz n' (by omega) h h', ?_⟩, ?_⟩, hcmp⟩
  · rintro k ⟨r, x, h, hdx, h9⟩
    refine .inr ?_
    have own : ∀ {c}, p'.ow k = some (r, c) → r ≠ q → (∃ c, p.ow k = some (r, c)) ∨ Oc p os k := by
      intro c h hr
      rcases Place.into_ow h with ⟨rfl, _, _⟩ | ⟨c', h1, _, _⟩ | ⟨h1, _⟩
      · exact .inr ⟨q, _, hq, by simp, .inl rfl⟩
      · exact .inr ⟨q, _, hq, by simp, .inr ⟨rfl, c', h1⟩⟩
      · exact .inl ⟨c, h1⟩
    rcases get h with ⟨r1, r2, r3⟩ | ⟨rfl, rfl⟩ | ⟨rfl, rfl⟩
    · rcases h9 with h9 | ⟨h8, c, h9⟩
      · exact ⟨r, x, r3, hdx, .inl h9⟩
      · rcases own h9 r1 with ⟨c, h7⟩ | h7
        · exact ⟨r, x, r3, hdx, .inr ⟨h8, c, h7⟩⟩
        · exact h7
    · rcases h9 with h9 | ⟨h8, c, h9⟩
      · exact ⟨r, _, ho, by simp, .inl h9⟩
      · rcases own h9 (Ne.symm hne) with ⟨c, h7⟩ | h7
        · exact ⟨r, _, ho, by simp, .inr ⟨rfl, c, h7⟩⟩
        · exact h7
    · exact absurd rfl hdx
  · refine ⟨hM.prIn, fun k x h hdx => ?_, fun k k' a c ha hc' hda hdc e => ?_, fun k x h => ?_, fun r x k c h ht hk => ?_⟩
    · rcases get h with ⟨_, _, r3⟩ | ⟨rfl, rfl⟩ | ⟨rfl, rfl⟩
      · exact hM.blk k x r3 hdx
      · exact hM.blk _ _ ho (by simp)
      · exact absurd rfl hdx
    · rcases get ha with ⟨_, _, r3⟩ | ⟨rfl, rfl⟩ | ⟨rfl, rfl⟩ <;> rcases get hc' with ⟨_, _, s3⟩ | ⟨rfl, rfl⟩ | ⟨rfl, rfl⟩
      · exact hM.inj k k' a c r3 s3 hda hdc e
      · exact hM.inj k k' a _ r3 ho hda (by simp) e
      · exact absurd rfl hdc
      · exact hM.inj k k' _ c ho s3 (by simp) hdc e
      · rfl
      · exact absurd rfl hdc
      · exact absurd rfl hda
      · exact absurd rfl hda
      · exact absurd rfl hda
    · rcases get h with ⟨r1, r2, r3⟩ | ⟨rfl, rfl⟩ | ⟨rfl, rfl⟩
      · exact ObRel.mono (.refl _ _) hcmp (fun hdx => ⟨rfl, rfl, rfl, fun _ => .rfl⟩) (fun ht k2 c h2 => ⟨Place.into_keep h2 (fun e => (hM.own k x k2 c r3 ht h2).2.2 q _ hq (by simp) e.symm) r1, rfl⟩) (hM.ob k x r3)
      · refine ⟨vs, et, g1, g2, by rw [hlen]; exact g3, g4, c1, fun i hi j' hj' => ?_, g7⟩
        rcases c2 i hi j' hj' with ⟨rfl, rfl, e1⟩ | ⟨e0, hi2, hj3, e1⟩
        · refine ⟨_, k1, k2, ?_⟩
          rw [e1]
          cases k3 with
          | @msl _ _ _ A cap hol2 hc hn hh =>
            obtain ⟨hA, hl, hm⟩ := hh _ n xs.length hq (by simp [Ob.al])
            by_cases h0 : len = 0
            · subst h0; exact .nil A cap
            · have hA' : A = some ⟨p.bl q, 0, none⟩ := by
                rcases hA with h | h
                · simpa using h
                · omega
              subst hA'
              simp only [List.length_map] at q3
              have hlen2 : (xs.take len).length = len := by simp; omega
              have q5' : ∀ i (hi : i < xs.length), xs[i].cells.length = n := fun i hi => by have := q5 i (by simp; exact hi); simpa [V.cells] using this
              have key := Tr.sl (w := w) (S := fun kk => p'.ow kk = some (k, i * sz + j')) (xs.take len) (p.bl q) cap (p.room q) n qs qt (fun k => match p.ow k with | some (_, c) => c | none => 0) (fun i j => (qs[i * n + j]?).getD undef) (by simp [p', Place.into]) q1 q2 (by omega) (by omega) q4
                (fun a ha => by rw [hlen2] at ha; rw [List.getElem_take]; exact q5' a (by omega)) (fun a b ha hb => by
                rw [hlen2] at ha
                obtain ⟨u, y1, y2, y3⟩ := q6 a (by simp; omega) b (by simp [V.cells, q5' a (by omega)]; exact hb)
                rw [y1]; exact ⟨rfl, y2⟩) (fun a ha b hb => by
                rw [hlen2] at ha
                simp only [List.getElem_take] at hb ⊢
                obtain ⟨u, y1, y2, y3⟩ := q6 a (by simp; omega) b (by simpa [V.cells] using hb)
                rw [y1]
                simp only [List.getElem_map, V.cells, RelC] at y3
                refine Tr.mono y3 fun k2 h2 => ⟨⟨?_, fun e => (hM.own q _ k2 _ hq rfl h2).2.2 q _ hq (by simp) e.symm, by simp [h2]⟩, rfl⟩
                simp only [p', Place.into, h2, if_true]
                split <;> rfl)
              rw [hlen2] at key
              exact key
        · obtain ⟨v2, z1, z2, z3⟩ := g6 i hi2 j' hj3
          refine ⟨v2, z1, z2, ?_⟩
          rw [e1]
          exact z3.cmp (.refl _ _) hcmp fun k2 h2 => ⟨Place.into_keep h2 (fun e => (hM.own k _ k2 _ ho rfl h2).2.2 q _ hq (by simp) e.symm) (Ne.symm hne), rfl⟩
      · trivial
    · have key : isC w k ∧ (∀ i, ¬ Pr k i) ∧ ∀ o' ob', o' ≠ q → os[o']? = some ob' → ob' ≠ .dead → p.bl o' ≠ k := by
        rcases Place.into_ow hk with ⟨rfl, _, _⟩ | ⟨c', h1, _, _⟩ | ⟨h1, hr⟩
        · exact ⟨⟨_, _, q1⟩, q7, fun o' ob' h3 h4 h5 h6 => h3 (hM.inj o' q ob' _ h4 hq h5 (by simp) h6)⟩
        · obtain ⟨a1, a2, a3⟩ := hM.own q _ k c' hq rfl h1
          exact ⟨a1, a2, fun o' ob' _ h4 h5 => a3 o' ob' h4 h5⟩
        · rcases get h with ⟨_, _, r3⟩ | ⟨rfl, rfl⟩ | ⟨rfl, rfl⟩
          · obtain ⟨a1, a2, a3⟩ := hM.own r x k c r3 ht h1
            exact ⟨a1, a2, fun o' ob' _ h4 h5 => a3 o' ob' h4 h5⟩
          · obtain ⟨a1, a2, a3⟩ := hM.own r _ k c ho rfl h1
            exact ⟨a1, a2, fun o' ob' _ h4 h5 => a3 o' ob' h4 h5⟩
          · cases ht
      refine ⟨key.1, key.2.1, fun o' ob' h4 h5 => ?_⟩
      rcases get h4 with ⟨r1, r2, r3⟩ | ⟨rfl, rfl⟩ | ⟨rfl, rfl⟩
      · exact key.2.2 o' ob' r1 r3 h5
      · exact key.2.2 o' _ (Ne.symm hne) ho (by simp)
      · exact absurd rfl h5

theorem g_dead (hM : Mem w Pr p os) (hnF : nF ≤ os.length) : Moved nF w w Pr Pr p p os (os ++ [.dead]) ∧ Cmp p p os (os ++ [.dead]) := by
  have get : ∀ {k : Nat} {x : Ob}, (os ++ [Ob.dead])[k]? = some x → x ≠ .dead → os[k]? = some x := by
    intro k x h hd
    rcases os_get_push h with ⟨_, h⟩ | ⟨_, h⟩
    · exact h
    · exact absurd h hd
  have hcmp : Cmp p p os (os ++ [.dead]) := by
    refine ⟨by simp, fun k x hk h hdx => ⟨x, get h hdx, hdx, rfl, rfl, rfl⟩, fun k x sz n hk h h' => ⟨x, n, get h (Ob.al_sz h').2, h', Nat.le_refl _⟩⟩
  refine ⟨⟨⟨.refl _ _, Frm.refl _ _ _, fun b i hp => .inl hp, by simp, fun k x hk h hdx => hcmp.live k x (by omega) h hdx, fun k x sz n' hk h h' => hcmp.arr k x sz n' (by omega) h h', fun k ⟨o, ob, h1, h2, h3⟩ => .inr ⟨o, ob, get h1 h2, h2, h3⟩⟩, ?_⟩, hcmp⟩
  refine ⟨hM.prIn, fun k x h hdx => hM.blk k x (get h hdx) hdx, fun k k' a b ha hb hda hdb e => hM.inj k k' a b (get ha hda) (get hb hdb) hda hdb e, fun k x h => ?_, fun q x k c h ht hk => ?_⟩
  · by_cases hd : x = .dead
    · subst hd; trivial
    · exact ObRel.mono (.refl _ _) hcmp (fun _ => ⟨rfl, rfl, rfl, fun _ => .rfl⟩) (fun _ _ _ h => ⟨h, rfl⟩) (hM.ob k x (get h hd))
  · have hd : x ≠ .dead := by rintro rfl; cases ht
    obtain ⟨a1, a2, a3⟩ := hM.own q x k c (get h hd) ht hk
    exact ⟨a1, a2, fun o' ob' h4 h5 => a3 o' ob' (get h4 h5) h5⟩

theorem g_tc (hM : Mem w Pr p os) (hnF : nF ≤ os.length) {o sz : Nat} {es es' : List V} (ho : os[o]? = some (.tree sz es)) (hf : es.map V.cells = es'.map V.cells) :
    Moved nF w w Pr Pr p p os (os.set o (.tree sz es')) ∧ Cmp p p os (os.set o (.tree sz es')) := by
  have hlen : es'.length = es.length := by have := congrArg List.length hf; simpa using this.symm
  have hce : ∀ i (hi : i < es'.length), es'[i].cells = (es[i]'(by omega)).cells := fun i hi => by
    have h1 : (es.map V.cells)[i]'(by simp; omega) = (es'.map V.cells)[i]'(by simp; omega) := by simp only [hf]
    simpa using h1.symm
  have hcmp : Cmp p p os (os.set o (.tree sz es')) := by
    refine ⟨by simp, fun k x hk h hdx => ?_, fun k x sz2 n' hk h h' => ?_⟩
    · rcases os_get_set h with ⟨_, g⟩ | ⟨rfl, _, rfl⟩
      · exact ⟨x, g, hdx, rfl, rfl, rfl⟩
      · exact ⟨_, ho, by simp, rfl, rfl, rfl⟩
    · rcases os_get_set h with ⟨_, g⟩ | ⟨rfl, _, rfl⟩
      · exact ⟨x, n', g, h', Nat.le_refl _⟩
      · simp only [Ob.al, Option.some.injEq, Prod.mk.injEq] at h'
        exact ⟨_, es.length, ho, by simp [Ob.al, h'.1], by omega⟩
  obtain ⟨vs, et, g1, g2, g3, g4, g5, g6, g7⟩ := hM.ob o _ ho
  refine ⟨(turnT (vs := vs) (vs' := vs) (es' := es') hM hnF ho g1 g1 (fun _ _ => rfl) rfl rfl rfl rfl hlen g2 (fun i hi => by rw [hce i hi]; exact g5 i (by omega)) (fun i hi j hj => ?_)).1, hcmp⟩
  have hj' : j < (es[i]'(by omega)).cells.length := by rw [← hce i hi]; exact hj
  obtain ⟨v, k1, k2, k3⟩ := g6 i (by omega) j hj'
  refine ⟨v, k1, k2, ?_⟩
  have : es'[i].cells[j] = (es[i]'(by omega)).cells[j] := by simp only [hce i hi]
  rw [this]; exact k3

end
end Go.PL

/- PlTree2 -/
/- Arrays that own what they hold: one more of them; one that grows. -/
namespace Go.PL
open Go

section
variable {nF : Nat} {w w' : World} {Pr : Pro} {p : Place} {os : List Ob}

/-- A new array of cells that may hold references. -/
theorem pushT (hM : Mem w Pr p os) (hnF : nF ≤ os.length) {sz room : Nat} {es : List V} {vs : Array Value} {et : TypeId}
    (hw : w'.heap = w.heap.push (.cells vs et (0, 0))) (h1 : w'.os = w.os) (h2 : w'.tape = w.tape) (h3 : w'.output = w.output)
    (k1 : vs.size = room * sz) (k2 : es.length ≤ room) (k3 : room ≤ maxLen) (k4 : ∀ i (_ : i < es.length), es[i].cells.length = sz)
    (k5 : ∀ i (_ : i < es.length) j (_ : j < es[i].cells.length), ∃ v, vs[i * sz + j]? = some v ∧ v.oneCell' = true ∧ es[i].cells[j].lo = true ∧ RelV w Pr p os es[i].cells[j] v) :
    Moved nF w w' Pr Pr p ((p.at os.length w.heap.size room).clear os.length) os (os ++ [.tree sz es]) ∧ Stab w w' Pr Pr ∧ Cmp p ((p.at os.length w.heap.size room).clear os.length) os (os ++ [.tree sz es]) := by
  have hold : ∀ k, k < w.heap.size → w'.heap[k]? = w.heap[k]? := fun k hk => by rw [hw, Array.getElem?_push, if_neg (by omega)]
  have hst : Stab w w' Pr Pr := ⟨fun _ _ h => h, fun b i v hp hc => by rw [cellAt_of_heap (hold b (hM.prIn b i hp))]; exact hc⟩
  have hpl : ∀ o, o < os.length → ((p.at os.length w.heap.size room).clear os.length).bl o = p.bl o ∧ ((p.at os.length w.heap.size room).clear os.length).room o = p.room o := fun o ho => by
    have : o ≠ os.length := by omega
    simp [Place.clear, Place.at, this]
  have hpn : ((p.at os.length w.heap.size room).clear os.length).bl os.length = w.heap.size ∧ ((p.at os.length w.heap.size room).clear os.length).room os.length = room := by simp [Place.clear, Place.at]
  have how : ∀ {k q c : Nat}, ((p.at os.length w.heap.size room).clear os.length).ow k = some (q, c) ↔ p.ow k = some (q, c) ∧ q ≠ os.length := fun {k q c} => Place.clear_ow (p := p.at os.length w.heap.size room)
  have hcmp : Cmp p ((p.at os.length w.heap.size room).clear os.length) os (os ++ [.tree sz es]) := by
    refine ⟨by simp, fun o ob' ho h hd => ?_, fun o ob' sz n' ho h h' => ?_⟩
    · rw [List.getElem?_append_left ho] at h
      exact ⟨ob', h, hd, (hpl o ho).1, (hpl o ho).2, rfl⟩
    · rw [List.getElem?_append_left ho] at h
      exact ⟨ob', n', h, h', Nat.le_refl _⟩
  have hsz : w'.heap.size = w.heap.size + 1 := by rw [hw]; simp
  refine ⟨⟨⟨hst, ⟨h1, h2, h3, by omega, fun k hk _ => hold k hk⟩, fun b i hp => .inl hp, by simp, fun o ob' ho h hd => hcmp.live o ob' (by omega) h hd, fun o ob' sz n' ho h h' => hcmp.arr o ob' sz n' (by omega) h h', ?_⟩, ?_⟩, hst, hcmp⟩
  · rintro k ⟨o, ob', h, hd, h9⟩
    rcases os_get_push h with ⟨g1, g2⟩ | ⟨g1, g2⟩
    · rw [(hpl o g1).1] at h9
      exact .inr ⟨o, ob', g2, hd, h9.imp_right fun ⟨a, c, b⟩ => ⟨a, c, (how.1 b).1⟩⟩
    · subst g1
      rw [hpn.1] at h9
      rcases h9 with h9 | ⟨_, c, b⟩
      · exact .inl (by omega)
      · exact absurd rfl (how.1 b).2
  · refine ⟨fun b i hp => by have := hM.prIn b i hp; omega, fun o ob' h hd => ?_, fun o o' a b ha hb hda hdb e => ?_, fun o ob' h => ?_, fun o ob' k c h ht hk => ?_⟩
    · rcases os_get_push h with ⟨g1, g2⟩ | ⟨g1, g2⟩
      · rw [(hpl o g1).1]; have := hM.blk o ob' g2 hd; omega
      · subst g1; rw [hpn.1]; omega
    · rcases os_get_push ha with ⟨g1, g2⟩ | ⟨g1, g2⟩ <;> rcases os_get_push hb with ⟨g3, g4⟩ | ⟨g3, g4⟩
      · rw [(hpl o g1).1, (hpl o' g3).1] at e; exact hM.inj o o' a b g2 g4 hda hdb e
      · subst g3; rw [(hpl o g1).1, hpn.1] at e; have := hM.blk o a g2 hda; omega
      · subst g1; rw [hpn.1, (hpl o' g3).1] at e; have := hM.blk o' b g4 hdb; omega
      · omega
    · rcases os_get_push h with ⟨g1, g2⟩ | ⟨g1, g2⟩
      · exact ObRel.mono hst hcmp (fun hd => ⟨(hpl o g1).1, (hpl o g1).2, hold _ (hM.blk o ob' g2 hd), fun j => Iff.rfl⟩) (fun ht k c hk => ⟨how.2 ⟨hk, by omega⟩, hold _ (hM.own o ob' k c g2 ht hk).1.lt⟩) (hM.ob o ob' g2)
      · subst g1; subst g2
        refine ⟨vs, et, by rw [hpn.1, hw]; simp, by rw [hpn.2]; exact k1, by rw [hpn.2]; exact k2, by rw [hpn.2]; exact k3, k4, fun i hi j hj => ?_, fun j => by rw [hpn.1]; exact hM.prB⟩
        obtain ⟨v, z1, z2, z3, z4⟩ := k5 i hi j hj
        exact ⟨v, z1, z2, RelC.of_lo (w' := w') z3 (z4.cmp hst hcmp)⟩
    · obtain ⟨b1, b2⟩ := how.1 hk
      rcases os_get_push h with ⟨g1, g2⟩ | ⟨g1, g2⟩
      · obtain ⟨a1, a2, a3⟩ := hM.own o ob' k c g2 ht b1
        refine ⟨a1.of (hold k a1.lt), a2, fun o' ob2 h4 h5 => ?_⟩
        rcases os_get_push h4 with ⟨g3, g4⟩ | ⟨g3, g4⟩
        · rw [(hpl o' g3).1]; exact a3 o' ob2 g4 h5
        · subst g3; rw [hpn.1]; have := a1.lt; omega
      · exact absurd g1 b2

variable {Pr' : Pro} {p' : Place} {os' : List Ob}
/-- A tree has more elements; it lies where it lay, or in a block of its own; slices of it are spoken of no more. -/
theorem grownT (hM : Mem w Pr p os) {o sz : Nat} {es es' : List V} {vs vs' : Array Value} {et et' : TypeId} {b room : Nat} (ho : os[o]? = some (.tree sz es)) (hnF : nF ≤ o)
    (hv : w.heap[p.bl o]? = some (.cells vs et (0, 0)))
    (hb : (b = p.bl o ∧ room = p.room o ∧ w'.heap.size = w.heap.size) ∨ (b = w.heap.size ∧ w'.heap.size = w.heap.size + 1))
    (hw : w'.heap[b]? = some (.cells vs' et' (0, 0))) (hwo : ∀ k, k ≠ b → k < w.heap.size → w'.heap[k]? = w.heap[k]?)
    (h1 : w'.os = w.os) (h2 : w'.tape = w.tape) (h3 : w'.output = w.output)
    (k1 : vs'.size = room * sz) (k2 : es'.length ≤ room) (k3 : room ≤ maxLen) (k4 : ∀ i (_ : i < es'.length), es'[i].cells.length = sz)
    (k5 : ∀ i (_ : i < es'.length) j (_ : j < es'[i].cells.length), ∃ v, vs'[i * sz + j]? = some v ∧ v.oneCell' = true ∧ RelC w Pr p os (fun k => p.ow k = some (o, i * sz + j)) es'[i].cells[j] v) :
    Moved nF w w' Pr Pr p (p.at o b room) os ((os.map (Ob.kill o)).set o (.tree sz (es'.map (PL.kill o)))) ∧
      Stab w w' Pr Pr ∧ CmpBut o p (p.at o b room) os ((os.map (Ob.kill o)).set o (.tree sz (es'.map (PL.kill o)))) := by
  have hol : o < os.length := get_lt ho
  have hsz : w.heap.size ≤ w'.heap.size := by rcases hb with h | h <;> omega
  obtain ⟨_, _, _, _, _, _, _, _, g7⟩ := hM.ob o _ ho
  have hst : Stab w w' Pr Pr := by
    refine ⟨fun _ _ h => h, fun b' i v hp hc => ?_⟩
    have hin := hM.prIn b' i hp
    have hbb : b' ≠ b := by
      rintro rfl
      rcases hb with ⟨rfl, _⟩ | ⟨rfl, _⟩
      · exact g7 i hp
      · omega
    rw [cellAt_of_heap (hwo b' hbb hin)]; exact hc
  have get : ∀ {i : Nat} {x : Ob}, ((os.map (Ob.kill o)).set o (.tree sz (es'.map (PL.kill o))))[i]? = some x → (i ≠ o ∧ ∃ y, os[i]? = some y ∧ x = y.kill o) ∨ (i = o ∧ x = .tree sz (es'.map (PL.kill o))) := by
    intro i x h
    rcases os_get_set h with ⟨g1, g2⟩ | ⟨g1, _, g2⟩
    · rw [List.getElem?_map] at g2
      cases h' : os[i]? with
      | none => simp [h'] at g2
      | some y => simp [h'] at g2; exact .inl ⟨g1, y, rfl, g2.symm⟩
    · exact .inr ⟨g1, g2⟩
  have hpl : ∀ i, i ≠ o → (p.at o b room).bl i = p.bl i ∧ (p.at o b room).room i = p.room i := fun i hi => by simp [Place.at, hi]
  have hpo : (p.at o b room).bl o = b ∧ (p.at o b room).room o = room := by simp [Place.at]
  have hcb : CmpBut o p (p.at o b room) os ((os.map (Ob.kill o)).set o (.tree sz (es'.map (PL.kill o)))) := by
    refine ⟨by simp, fun i x hi hl h hd => ?_, fun i x sz2 n2 hi hl h h' => ?_⟩
    · rcases get h with ⟨_, y, g1, rfl⟩ | ⟨g1, _⟩
      · obtain ⟨f1, f2, f3, f4, f5, f6⟩ := Ob.kill_facts (k := o) y
        exact ⟨y, g1, fun e => hd (f4.2 e), (hpl i hi).1, (hpl i hi).2, f1⟩
      · exact absurd g1 hi
    · rcases get h with ⟨_, y, g1, g2⟩ | ⟨g1, _⟩
      · subst g2
        obtain ⟨f1, f2, f3, f4, f5, f6⟩ := Ob.kill_facts (k := o) y
        exact ⟨y, n2, g1, by rw [← f5]; exact h', Nat.le_refl _⟩
      · exact absurd g1 hi
  have hbl : ∀ i y, i ≠ o → os[i]? = some y → y ≠ .dead → p.bl i ≠ b := by
    intro i y hi hy hd e
    rcases hb with ⟨rfl, _⟩ | ⟨rfl, _⟩
    · exact hi (hM.inj i o y _ hy ho hd (by simp) e)
    · have := hM.blk i y hy hd; omega
  have hown : ∀ i y k c, os[i]? = some y → y.isTree = true → p.ow k = some (i, c) → k ≠ b ∧ isC w k := fun i y k c h1 h2 h3 => by
    obtain ⟨a1, a2, a3⟩ := hM.own i y k c h1 h2 h3
    refine ⟨?_, a1⟩
    rintro rfl
    rcases hb with ⟨e, _⟩ | ⟨e, _⟩
    · exact a3 o _ ho (by simp) e.symm
    · have := a1.lt; omega
  have hkc := fun (q m sz3 : Nat) (y : Ob) (hy : os[q]? = some y) (hyt : y.isTree = true) => RelC.killC (k := o) (p := p) (p' := p.at o b room) (os := os) (os' := (os.map (Ob.kill o)).set o (.tree sz (es'.map (PL.kill o)))) (S := fun j b' => p.ow b' = some (q, m * sz3 + j)) (S' := fun j b' => (p.at o b room).ow b' = some (q, m * sz3 + j)) hst hcb (fun j b' hb' => by
    obtain ⟨c1, c2⟩ := hown q y b' _ hy hyt hb'
    exact ⟨hb', hwo b' c1 c2.lt⟩)
  refine ⟨⟨⟨hst, ⟨h1, h2, h3, hsz, fun k hk hf => hwo k (fun e => ?_) hk⟩, fun b' i hp => .inl hp, by simp, fun i x hi h hd => hcb.live i x (by omega) (by omega) h hd, fun i x sz2 n2 hi h h' => hcb.arr i x sz2 n2 (by omega) (by omega) h h', ?_⟩, ?_⟩, hst, hcb⟩
  · subst e
    rcases hb with ⟨rfl, _⟩ | ⟨rfl, _⟩
    · exact hf ⟨o, _, ho, by simp, .inl rfl⟩
    · omega
  · rintro k ⟨i, x, h, hd, h9⟩
    rcases get h with ⟨g1, y, g2, rfl⟩ | ⟨rfl, rfl⟩
    · obtain ⟨f1, f2, f3, f4, f5, f6⟩ := Ob.kill_facts (k := o) y
      rw [(hpl i g1).1, f6] at h9
      exact .inr ⟨i, y, g2, fun e => hd (f4.2 e), h9⟩
    · rw [hpo.1] at h9
      rcases h9 with h9 | ⟨_, c, h9⟩
      · rcases hb with ⟨rfl, _⟩ | ⟨rfl, _⟩
        · exact .inr ⟨i, _, ho, by simp, .inl h9⟩
        · exact .inl (by omega)
      · exact .inr ⟨i, _, ho, by simp, .inr ⟨rfl, c, h9⟩⟩
  · refine ⟨fun b' i hp => Nat.lt_of_lt_of_le (hM.prIn b' i hp) hsz, fun i x h hd => ?_, fun i i' x y hx hy hdx hdy e => ?_, fun i x h => ?_, fun i x k c h ht hk => ?_⟩
    · rcases get h with ⟨g1, y, g2, rfl⟩ | ⟨rfl, rfl⟩
      · rw [(hpl i g1).1]; exact Nat.lt_of_lt_of_le (hM.blk i y g2 fun e => hd ((Ob.kill_facts y).2.2.2.1.2 e)) hsz
      · rw [hpo.1]; exact (Array.getElem?_eq_some_iff.1 hw).1
    · rcases get hx with ⟨n1, y1, g1, rfl⟩ | ⟨rfl, rfl⟩ <;> rcases get hy with ⟨n2, y2, g2, rfl⟩ | ⟨rfl, rfl⟩
      · rw [(hpl i n1).1, (hpl i' n2).1] at e
        exact hM.inj i i' y1 y2 g1 g2 (fun e => hdx ((Ob.kill_facts y1).2.2.2.1.2 e)) (fun e => hdy ((Ob.kill_facts y2).2.2.2.1.2 e)) e
      · rw [(hpl i n1).1, hpo.1] at e
        exact absurd e (hbl i y1 n1 g1 (fun e => hdx ((Ob.kill_facts y1).2.2.2.1.2 e)))
      · rw [(hpl i' n2).1, hpo.1] at e
        exact absurd e.symm (hbl i' y2 n2 g2 (fun e => hdy ((Ob.kill_facts y2).2.2.2.1.2 e)))
      · rfl
    · rcases get h with ⟨n1, y, g1, rfl⟩ | ⟨rfl, rfl⟩
      · by_cases hd : y = .dead
        · subst hd; trivial
        · have hne := hbl i y n1 g1 hd
          have hbi := hpl i n1
          cases hty : y.isTree with
          | true =>
            cases y with
            | tree sz3 es3 =>
              obtain ⟨vs0, et0, q1, q2, q3, q4, q5, q6, q7⟩ := hM.ob i _ g1
              refine ⟨vs0, et0, by rw [hbi.1, hwo _ hne (hM.blk i _ g1 hd)]; exact q1, by rw [hbi.2]; exact q2, by rw [hbi.2]; simpa using q3, by rw [hbi.2]; exact q4, fun m hm => ?_, fun m hm j hj => ?_, fun j => by rw [hbi.1]; exact q7 j⟩
              · simp only [List.length_map] at hm
                obtain ⟨e, _⟩ := hkc i m sz3 _ g1 rfl es3[m]
                rw [List.getElem_map, e]
                exact q5 m hm
              · simp only [List.length_map] at hm
                obtain ⟨e, hk⟩ := hkc i m sz3 _ g1 rfl es3[m]
                simp only [List.getElem_map] at hj ⊢
                obtain ⟨u, z1, z2, z3⟩ := q6 m hm j (by omega)
                exact ⟨u, z1, z2, hk j (by omega) u z3⟩
            | _ => cases hty
          | false =>
            obtain ⟨vs0, et0, q1, q2, q3⟩ := (hM.ob i y g1).pre hd hty
            obtain ⟨f1, f2', f3, f4, _⟩ := Ob.kill_facts (k := o) y
            have f2 := f2' hty
            refine ObRel.of_pre (et := et0) (.refl _ _) (.refl _ _) (q2.kill hst hcb) (by rw [hbi.1, hwo _ hne (hM.blk i y g1 hd)]; exact q1) hbi.2 fun j => ?_
            rw [hbi.1, f3, f2, ← q3]
      · refine ⟨vs', et', by rw [hpo.1]; exact hw, by rw [hpo.2]; exact k1, by rw [hpo.2]; simpa using k2, by rw [hpo.2]; exact k3, fun m hm => ?_, fun m hm j hj => ?_, fun j hj => ?_⟩
        · simp only [List.length_map] at hm
          obtain ⟨e, _⟩ := hkc i m sz _ ho rfl es'[m]
          rw [List.getElem_map, e]
          exact k4 m hm
        · simp only [List.length_map] at hm
          obtain ⟨e, hk⟩ := hkc i m sz _ ho rfl es'[m]
          simp only [List.getElem_map] at hj ⊢
          obtain ⟨u, z1, z2, z3⟩ := k5 m hm j (by omega)
          exact ⟨u, z1, z2, hk j (by omega) u z3⟩
        · rw [hpo.1] at hj
          rcases hb with ⟨rfl, _⟩ | ⟨rfl, _⟩
          · exact g7 j hj
          · exact hM.prB hj
    · have key : ∃ y, os[i]? = some y ∧ y.isTree = true := by
        rcases get h with ⟨n1, y, g1, rfl⟩ | ⟨rfl, rfl⟩
        · exact ⟨y, g1, by rw [← (Ob.kill_facts (k := o) y).2.2.2.2.2]; exact ht⟩
        · exact ⟨_, ho, rfl⟩
      obtain ⟨y, g1, g2⟩ := key
      obtain ⟨a1, a2, a3⟩ := hM.own i y k c g1 g2 hk
      obtain ⟨c1, c2⟩ := hown i y k c g1 g2 hk
      refine ⟨a1.of (hwo k c1 c2.lt), a2, fun o' ob2 h4 h5 => ?_⟩
      rcases get h4 with ⟨n2, y2, q2, rfl⟩ | ⟨rfl, rfl⟩
      · rw [(hpl o' n2).1]; exact a3 o' y2 q2 fun e => h5 ((Ob.kill_facts y2).2.2.2.1.2 e)
      · rw [hpo.1]; exact c1.symm

end
end Go.PL

/- PlTree3 -/
/- A slice's literal and an append whose elements hold slices of their own. -/
namespace Go.PL
open Go

theorem vchunk_len {g : Bool} {n : Nat} : ∀ (k : Nat) (cs : List V), (vchunk g n k cs).length = k
  | 0, _ => rfl
  | k + 1, cs => by simp [vchunk, vchunk_len k]

theorem vchunk_cells {g : Bool} {n : Nat} (hg : g = true ∨ n = 1) : ∀ (k : Nat) (cs : List V), (∀ i (hi : i < cs.length), cs[i].one = true) → cs.length = k * n → ∀ i (hi : i < (vchunk g n k cs).length),
    (vchunk g n k cs)[i].cells = (cs.drop (i * n)).take n
  | 0, cs, _, _, i, hi => absurd hi (by simp [vchunk])
  | k + 1, cs, h1, hl, i, hi => by
    have hl' : cs.length = k * n + n := by rw [hl, Nat.succ_mul]
    cases i with
    | zero =>
      simp only [vchunk, List.getElem_cons_zero, Nat.zero_mul, List.drop_zero]
      split
      · rfl
      · rename_i hgf
        have hn : n = 1 := by rcases hg with h | h; exact absurd h hgf; exact h
        subst hn
        match cs, hl' with
        | x :: r, _ =>
          simp only [List.head?_cons, Option.getD_some, List.take_succ_cons, List.take_zero]
          exact V.cells1 (V.one_agg (h1 0 (by simp)))
    | succ i =>
      simp only [vchunk, List.getElem_cons_succ]
      have hi' : i < (vchunk g n k (cs.drop n)).length := by simpa [vchunk] using hi
      rw [vchunk_cells hg k (cs.drop n) (fun j hj => by simp at hj ⊢; exact h1 _ _) (by simp; omega) i hi', List.drop_drop]
      congr 2
      rw [Nat.succ_mul, Nat.add_comm]

section
variable {P : Program} {T : Tab} [TOk T P] {nF : Nat} {w : World} {Pr : Pro} {p : Place} {st : St} {a : Act} {K : V → St → Prop}
variable {dst : Option Tmp} {type : TypeId} {pos : String} {after : Array Edge} {guard : Option (Nat × Bool)}

theorem out_treeBuild (hM : Mem w Pr p st.os) (hE : EnvR w Pr p st.os a.tmps st.env) (hnF : nF ≤ st.os.length) {t : TypeId} {len : Nat} {parts : Array (Nat × Operand)} (h : treeK T nF st (.buildSlice t len parts) K) :
    Out nF w Pr p st a.tmps K ((execOp a.eval ⟨dst, .buildSlice t len parts, type, pos, after, guard⟩).run P w) := by
  simp only [treeK] at h
  split at h
  · rename_i e ht
    obtain ⟨n1, u1, _, q2, q3⟩ := tk_spec ht (by simp)
    rw [TK.of_sl q3] at q2
    split at h
    · rename_i i hti
      obtain ⟨ni, u, z, k, i1, i2, i3, i4, rfl, i6, i7, i8⟩ := ti_spec hti
      simp only at h
      split at h
      · rename_i cs hf
        obtain ⟨glo, g1, g2, g3⟩ := h
        have hzl : z.cells.toList.length = ni.size := by simpa using i6
        have hlen0 : (List.map (fun v => V.d (D.val v)) z.cells.toList).length = ni.size := by simpa using i6
        have hinit : CellsR w Pr p st.os (List.replicate len (z.cells.toList.map fun v => V.d (.val v))).flatten (madeCells z.cells (len * ni.size)) := by
          have hfl : (List.replicate len (z.cells.toList.map fun v => V.d (D.val v))).flatten.length = len * ni.size := by simp [i6]
          refine ⟨by rw [size_madeCells, hfl], fun j hj => ?_⟩
          rw [hfl] at hj
          rw [madeCells_get _ _ _ hj (by omega)]
          have hm : j % ni.size < ni.size := Nat.mod_lt _ g2
          have hm' : j % z.cells.size < z.cells.size := by rw [i6]; exact hm
          refine ⟨_, rfl, ?_, ?_⟩
          · rw [← oneC_iff]; exact List.all_eq_true.1 i7 _ (by simp)
          · have e1 := flat_get (z.cells.toList.map fun v => V.d (D.val v)) (by rw [hlen0]; exact g2) len j (by rw [hlen0]; exact hj)
            rw [hlen0] at e1
            rw [List.getElem?_eq_getElem (by rw [hfl]; exact hj), List.getElem?_eq_getElem (by rw [hlen0]; exact hm)] at e1
            rw [Option.some.inj e1]
            simp only [List.getElem_map, i6]
            exact .d (.val _)
        obtain ⟨l1, l2⟩ := parts_rel (w := w) (Pr := Pr) (p := p) hE parts
        obtain ⟨vs, f1, f2⟩ := fill_rel (w := w) (Pr := Pr) (p := p) (os := st.os) (place := fun j => some (j * ni.size, ni.size)) (fun i => rfl) hf hinit l1 l2
        have hfillLen : ∀ {at_ : Nat → Option (Nat × Nat)} {parts : List (Nat × V)} {cs cs' : List V}, fillCells at_ cs parts = some cs' → cs.all V.one = true → cs'.length = cs.length ∧ cs'.all V.one = true := by
          intro at_ parts
          induction parts with
          | nil => intro cs cs' h h1; simp only [fillCells, Option.some.injEq] at h; subst h; exact ⟨rfl, h1⟩
          | cons x r ih =>
            intro cs cs' h h1
            simp only [fillCells] at h
            split at h
            · cases h
            · split at h
              · rename_i off n _ hc
                have hr : off + x.2.cells.length ≤ cs.length := by omega
                have := ih h (by
                  simp only [setRange, List.all_append, Bool.and_eq_true]
                  rw [List.all_eq_true] at h1
                  exact ⟨⟨List.all_eq_true.2 fun y hy => h1 y (List.mem_of_mem_take hy), hc.2.2⟩, List.all_eq_true.2 fun y hy => h1 y (List.mem_of_mem_drop hy)⟩)
                rw [setRange_len hr] at this
                exact this
              · cases h
        have hall0 : (List.replicate len (z.cells.toList.map fun v => V.d (D.val v))).flatten.all V.one = true := by
          rw [List.all_eq_true]
          intro x hx
          simp only [List.mem_flatten, List.mem_replicate] at hx
          obtain ⟨y, ⟨_, rfl⟩, hx⟩ := hx
          simp only [List.mem_map] at hx
          obtain ⟨v, hv, rfl⟩ := hx
          have := List.all_eq_true.1 i7 v hv
          cases v <;> first | rfl | simp [oneC] at this
        obtain ⟨hcsl, hall⟩ := hfillLen hf hall0
        have hcsl2 : cs.length = len * ni.size := by rw [hcsl]; simp [i6]
        have hone : ∀ i (hi : i < cs.length), cs[i].one = true := fun i hi => List.all_eq_true.1 hall _ (List.getElem_mem hi)
        have hchunk := vchunk_cells (g := isAggD u) (n := ni.size) i8 len cs hone (by omega)
        have hrun : (execOp a.eval ⟨dst, .buildSlice t len parts, type, pos, after, guard⟩).run P w = .ok (.value (.slice (some ⟨w.heap.size, 0, none⟩) len len)) (w.alloc (.cells vs e)) := by
          have hfl : Instr.fill (fun j => some (j * ni.size, ni.size)) (madeCells z.cells (len * ni.size)) (List.map (fun x => (x.fst, a.eval x.snd)) parts.toList) = some vs := by simpa [vparts] using f1
          by_cases h0 : len * ni.size = 0
          · have : madeCells z.cells (len * ni.size) = #[] := by rw [h0]; simp [madeCells]
            rw [this] at hfl
            have e0 : Array.map (fun (_ : Nat) => (default : Value)) (Array.range 0) = #[] := by apply Array.ext' ; simp [Array.toList_range]
            simp only [execOp, Instr.buildSlice, Sem.run_bind, run_underlying q2, Result.andThen_ok, sizeOf, typeInfo, run_program, i1, Sem.run_pure, h0]
            simp [hfl, newRow, e0]
          · have hgt : ¬ (len * ni.size > 2 ^ 24) := by omega
            simp only [execOp, Instr.buildSlice, Sem.run_bind, run_underlying q2, Result.andThen_ok, sizeOf, typeInfo, run_program, i1, Sem.run_pure, zeroValue, i3, if_neg h0, if_neg hgt]
            unfold madeCells at hfl
            simp [hfl, newRow]
        obtain ⟨m2, s2, c2⟩ := pushT (nF := nF) (w' := w.alloc (.cells vs e)) (et := e) (room := len) (vs := vs) (sz := ni.size) (es := vchunk (isAggD u) ni.size len cs)
          hM hnF rfl rfl rfl rfl (by rw [f2.1, hcsl2]) (by rw [vchunk_len]; exact Nat.le_refl _) (by simp only [maxLen]; have := Nat.le_mul_of_pos_right len g2; omega) (fun j hj => by
            rw [hchunk j hj]; rw [vchunk_len] at hj; simp
            have := Nat.mul_le_mul_right ni.size (show j + 1 ≤ len by omega)
            rw [Nat.succ_mul] at this; omega) (fun j hj j' hj' => by
            have hj2 := hj
            rw [vchunk_len] at hj2
            have e1 := hchunk j hj
            have hj3 : j' < ni.size := by rw [e1] at hj'; simp at hj'; omega
            have hlt : j * ni.size + j' < len * ni.size := by
              have := Nat.mul_le_mul_right ni.size (show j + 1 ≤ len by omega)
              rw [Nat.succ_mul] at this; omega
            obtain ⟨x, r1, r2, r3⟩ := f2.2 (j * ni.size + j') (by omega)
            have e2 : (vchunk (isAggD u) ni.size len cs)[j].cells[j'] = cs[j * ni.size + j']'(by omega) := by
              simp [e1]
            refine ⟨x, r1, r2, ?_, ?_⟩
            · rw [e2]; exact List.all_eq_true.1 glo _ (List.getElem_mem _)
            · rw [e2]; exact r3)
        refine ⟨_, _, _, _, _, _, g3, .inl hrun, ⟨m2, EnvR.moved s2 c2 hE⟩, ?_⟩
        refine .msl (by simp) (Nat.le_refl _) (.inr rfl) fun ob sz n ho hal => ?_
        simp at ho
        subst ho
        simp only [Ob.al, Option.some.injEq, Prod.mk.injEq] at hal
        obtain ⟨rfl, rfl⟩ := hal
        simp [Place.clear, Place.at, vchunk_len]
      · exact h.elim
    · exact h.elim
  · exact h.elim

theorem telems_rel (hM : Mem w Pr p st.os) {x : V} {v : Value} {news : List V} {sz : Nat} (h : telems st.os x = some news) (hr : RelV w Pr p st.os x v) (hsz : ∀ e ∈ news, e.cells.length = sz) (hne : news ≠ []) :
    ∃ (c : Nat) (ad : Addr) (nl : List Value), v = .slice (some ad) news.length c ∧ nl.length = news.length * sz ∧ (∀ (j : Nat) (u : Value), nl[j]? = some u → w.cell? (ad.add j) = some u) ∧ (∀ u ∈ nl, u.oneCell' = true) ∧
      ∀ i (_ : i < news.length) j (_ : j < news[i].cells.length), ∃ (v : Value) (S : Nat → Prop), nl[i * sz + j]? = some v ∧ v.oneCell' = true ∧ RelC w Pr p st.os S news[i].cells[j] v := by
  cases x with
  | msl o off len =>
    simp only [telems] at h
    split at h
    · rename_i sz2 es ho
      cases h
      cases hr with
      | @msl _ _ _ A cap hol hc hn hh =>
        obtain ⟨g1, g2, g3⟩ := hh _ _ _ ho rfl
        have hlen : ((es.drop off).take len).length = len := by simp; omega
        have h0 : 0 < len := by
          rcases Nat.eq_zero_or_pos len with h | h
          · subst h; exact absurd rfl hne
          · exact h
        obtain ⟨vs, et, q1, q2, q3, q4, q5, q6, q7⟩ := hM.ob o _ ho
        have hA : A = some ⟨p.bl o, off * sz2, none⟩ := by rcases g1 with h | h; exact h; omega
        have key : ∀ i (hi : i < ((es.drop off).take len).length), ((es.drop off).take len)[i] = es[off + i]'(by rw [hlen] at hi; omega) := by
          intro i hi
          simp [List.getElem_take, List.getElem_drop]
        have e : sz2 = sz := by
          rw [← q5 off (by omega)]
          have := hsz ((es.drop off).take len)[0] (List.getElem_mem (by omega))
          simpa using this
        subst e
        subst hA
        have hlt : ∀ j, j < len * sz2 → ∃ i j', i < len ∧ j' < sz2 ∧ j = i * sz2 + j' := fun j hj => by
          have hp : 0 < sz2 := by
            rcases Nat.eq_zero_or_pos sz2 with h | h
            · subst h; simp at hj
            · exact h
          exact ⟨j / sz2, j % sz2, by rw [Nat.div_lt_iff_lt_mul hp]; exact hj, Nat.mod_lt _ hp, (Nat.div_add_mod' j sz2).symm⟩
        have hcell : ∀ i j', i < len → j' < sz2 → ∃ v, vs[(off + i) * sz2 + j']? = some v ∧ v.oneCell' = true ∧ ∀ (hi : i < ((es.drop off).take len).length) (hj : j' < ((es.drop off).take len)[i].cells.length), RelC w Pr p st.os (fun k => p.ow k = some (o, (off + i) * sz2 + j')) ((es.drop off).take len)[i].cells[j'] v := fun i j' hi hj => by
          have hi' : off + i < es.length := by omega
          obtain ⟨v, z1, z2, z3⟩ := q6 (off + i) hi' j' (by rw [q5 _ hi']; exact hj)
          refine ⟨v, z1, z2, fun hi2 hj2 => ?_⟩
          have e1 : ((es.drop off).take len)[i].cells[j'] = es[off + i].cells[j']'(by rw [q5 _ hi']; exact hj) := by simp [key i hi2]
          rw [e1]; exact z3
        refine ⟨cap, _, (vs.toList.drop (off * sz2)).take (len * sz2), by rw [hlen], ?_, fun j u hu => ?_, fun u hu => ?_, fun i hi j hj => ?_⟩
        · rw [hlen]
          have : (off + len) * sz2 ≤ p.room o * sz2 := Nat.mul_le_mul_right _ (by omega)
          rw [Nat.add_mul] at this
          simp; omega
        · rw [List.getElem?_take] at hu
          split at hu
          · rw [Addr.add_none]
            simp only [World.cell?, q1]
            rw [List.getElem?_drop] at hu
            simpa using hu
          · cases hu
        · obtain ⟨j, hj, rfl⟩ := List.getElem_of_mem hu
          have hj2 : j < len * sz2 := by simp at hj; omega
          obtain ⟨i, j', hi, hj', e⟩ := hlt j hj2
          obtain ⟨v, z1, z2, _⟩ := hcell i j' hi hj'
          have : ((vs.toList.drop (off * sz2)).take (len * sz2))[j]? = some v := by
            rw [List.getElem?_take, if_pos hj2, List.getElem?_drop, e, ← Nat.add_assoc, ← Nat.add_mul]
            simpa using z1
          rw [List.getElem?_eq_getElem hj] at this
          rw [Option.some.inj this]; exact z2
        · have hi2 := hi
          rw [hlen] at hi2
          have hj' : j < sz2 := by rw [← hsz _ (List.getElem_mem hi)]; exact hj
          obtain ⟨v, z1, z2, z3⟩ := hcell i j hi2 hj'
          refine ⟨v, _, ?_, z2, z3 hi hj⟩
          rw [List.getElem?_take, if_pos (idx_lt hi2 hj'), List.getElem?_drop, ← Nat.add_assoc, ← Nat.add_mul]
          simpa using z1
    · cases h
  | _ => simp [telems] at h

theorem treeob_append {o sz : Nat} {es news : List V} {pre nl post : List Value} (hpre : pre.length = es.length * sz) (hnl : nl.length = news.length * sz)
    (h6 : ∀ i (_ : i < es.length), es[i].cells.length = sz) (h7 : ∀ i (_ : i < news.length), news[i].cells.length = sz)
    (h8 : ∀ i (_ : i < es.length) j (_ : j < es[i].cells.length), ∃ v, pre[i * sz + j]? = some v ∧ v.oneCell' = true ∧ RelC w Pr p st.os (fun k => p.ow k = some (o, i * sz + j)) es[i].cells[j] v)
    (h9 : ∀ i (_ : i < news.length) j (_ : j < news[i].cells.length), ∃ v, nl[i * sz + j]? = some v ∧ v.oneCell' = true ∧ RelV w Pr p st.os news[i].cells[j] v)
    (hlo : ∀ e ∈ news, e.cells.all V.lo = true) :
    (∀ i (_ : i < (es ++ news).length), (es ++ news)[i].cells.length = sz) ∧
    ∀ i (_ : i < (es ++ news).length) j (_ : j < (es ++ news)[i].cells.length), ∃ v, (pre ++ nl ++ post).toArray[i * sz + j]? = some v ∧ v.oneCell' = true ∧ RelC w Pr p st.os (fun k => p.ow k = some (o, i * sz + j)) (es ++ news)[i].cells[j] v := by
  refine ⟨fun i hi => ?_, fun i hi j hj => ?_⟩
  · rw [List.getElem_append]
    split
    · exact h6 _ _
    · exact h7 _ _
  · by_cases hlt : i < es.length
    · have e : (es ++ news)[i] = es[i] := List.getElem_append_left hlt
      have hj' : j < es[i].cells.length := by rw [← e]; exact hj
      obtain ⟨v, k1, k2, k3⟩ := h8 i hlt j hj'
      have hx : i * sz + j < pre.length := by rw [hpre]; exact idx_lt hlt (by rw [← h6 i hlt]; exact hj')
      refine ⟨v, ?_, k2, ?_⟩
      · simp only [List.getElem?_toArray, List.append_assoc]
        rw [List.getElem?_append_left hx]; exact k1
      · have : (es ++ news)[i].cells[j] = es[i].cells[j] := by simp [e]
        rw [this]; exact k3
    · have hlt2 : i - es.length < news.length := by simp at hi; omega
      have e : (es ++ news)[i] = news[i - es.length] := List.getElem_append_right (by omega)
      have hj' : j < news[i - es.length].cells.length := by rw [← e]; exact hj
      obtain ⟨v, k1, k2, k3⟩ := h9 _ hlt2 j hj'
      have hx : (i - es.length) * sz + j < nl.length := by rw [hnl]; exact idx_lt hlt2 (by rw [← h7 _ hlt2]; exact hj')
      have hge : es.length * sz ≤ i * sz := Nat.mul_le_mul_right _ (by omega)
      have hsub : (i - es.length) * sz = i * sz - es.length * sz := Nat.sub_mul _ _ _
      refine ⟨v, ?_, k2, ?_⟩
      · simp only [List.getElem?_toArray, List.append_assoc]
        rw [List.getElem?_append_right (by omega), List.getElem?_append_left (by omega)]
        rw [← k1]; congr 1; omega
      · have : (es ++ news)[i].cells[j] = news[i - es.length].cells[j] := by simp [e]
        rw [this]
        exact RelC.of_lo (w' := w) (List.all_eq_true.1 (hlo _ (List.getElem_mem hlt2)) _ (List.getElem_mem hj')) k3

theorem out_appendT_of (hM : Mem w Pr p st.os) (hE : EnvR w Pr p st.os a.tmps st.env) {o sz : Nat} {es es' : List V} {vs : Array Value} {et : TypeId} {r : Result Next} {len' : Nat}
    (ho : st.os[o]? = some (.tree sz es)) (hnF : nF ≤ o) (hv : w.heap[p.bl o]? = some (.cells vs et (0, 0))) {w' : World} {b room cap : Nat} {vs' : Array Value} {et' : TypeId}
    (hb : (b = p.bl o ∧ room = p.room o ∧ w'.heap.size = w.heap.size) ∨ (b = w.heap.size ∧ w'.heap.size = w.heap.size + 1))
    (hw : w'.heap[b]? = some (.cells vs' et' (0, 0))) (hwo : ∀ k, k ≠ b → k < w.heap.size → w'.heap[k]? = w.heap[k]?)
    (h1 : w'.os = w.os) (h2 : w'.tape = w.tape) (h3 : w'.output = w.output)
    (k1 : vs'.size = room * sz) (k2 : es'.length ≤ room) (k3 : room ≤ maxLen)
    (k45 : (∀ i (_ : i < es'.length), es'[i].cells.length = sz) ∧ ∀ i (_ : i < es'.length) j (_ : j < es'[i].cells.length), ∃ v, vs'[i * sz + j]? = some v ∧ v.oneCell' = true ∧ RelC w Pr p st.os (fun k => p.ow k = some (o, i * sz + j)) es'[i].cells[j] v)
    (hl : len' = es'.length) (hc : len' ≤ cap) (hcr : cap ≤ room)
    (hr : r = .ok (.value (.slice (some ⟨b, 0, none⟩) len' cap)) w') (hK : K (.msl o 0 len') { st.kill o with os := (st.kill o).os.set o (.tree sz (es'.map (PL.kill o))) }) : Out nF w Pr p st a.tmps K r := by
  have hol : o < st.os.length := get_lt ho
  obtain ⟨m, hs, hcb⟩ := grownT (nF := nF) hM ho hnF hv hb hw hwo h1 h2 h3 k1 k2 k3 k45.1 k45.2
  refine ⟨_, _, _, w', _, _, hK, .inl hr, ⟨m, EnvR.kill hs hcb hE⟩, .msl (by simpa [St.kill] using hol) hc (.inr rfl) fun ob2 sz2 n2 ho2 hal2 => ?_⟩
  simp only [St.kill] at ho2
  rw [List.getElem?_set_self (by simpa using hol)] at ho2
  cases ho2
  simp only [Ob.al, Option.some.injEq, Prod.mk.injEq, List.length_map] at hal2
  obtain ⟨rfl, rfl⟩ := hal2
  exact ⟨.inl (by simp [Place.at]), by omega, by simp [Place.at]; omega⟩

theorem out_treeAppend (hM : Mem w Pr p st.os) (hE : EnvR w Pr p st.os a.tmps st.env) {args : Array Operand} {ats : Array TypeId} (h : treeK T nF st (.call { callee := .builtin .append, args, argTypes := ats }) K) :
    Out nF w Pr p st a.tmps K ((execOp a.eval ⟨dst, .call { callee := .builtin .append, args, argTypes := ats }, type, pos, after, guard⟩).run P w) := by
  simp only [treeK] at h
  rw [resolve_builtin]
  split at h
  · rename_i t t' s x h1 h2
    obtain rfl : ats = #[t, t'] := by rw [← Array.toArray_toList (xs := ats), h1]
    obtain rfl : args = #[s, x] := by rw [← Array.toArray_toList (xs := args), h2]
    split at h
    · rename_i e news ht hel
      obtain ⟨n1, u1, _, q2, q3⟩ := tk_spec ht (by simp)
      rw [TK.of_sl q3] at q2
      split at h
      · rename_i i hti
        obtain ⟨ni, u, z, k, i1, i2, i3, i4, rfl, i6, i7, i8⟩ := ti_spec hti
        obtain ⟨rfl, h⟩ := h
        unfold appendTK at h
        obtain ⟨hnews, hpos, hne, h⟩ := h
        simp only at hnews hpos
        have hn1 : ∀ e ∈ news, e.cells.length = ni.size := fun e he => (hnews e he).1
        have hn2 : ∀ i (_ : i < news.length), news[i].cells.length = ni.size := fun i hi => hn1 _ (List.getElem_mem hi)
        have hlo : ∀ e ∈ news, e.cells.all V.lo = true := fun e he => (hnews e he).2
        obtain ⟨c, ad, nl, hxv, l1, l2, l3, l4'⟩ := telems_rel hM hel (evalR hE x) hn1 hne
        have l4 : ∀ i (_ : i < news.length) j (_ : j < news[i].cells.length), ∃ v, nl[i * ni.size + j]? = some v ∧ v.oneCell' = true ∧ RelV w Pr p st.os news[i].cells[j] v := fun i hi j hj => by
          obtain ⟨v, S, z1, z2, z3⟩ := l4' i hi j hj
          exact ⟨v, z1, z2, RelC.lo (List.all_eq_true.1 (hlo _ (List.getElem_mem hi)) _ (List.getElem_mem hj)) z3⟩
        have hs := evalR hE s
        have hbr : ∀ v w', (Builtin.append_ #[t', t'] type #[a.eval s, a.eval x]).run P w = .ok v w' → (builtin .append #[t', t'] type (#[s, x].map fun | .const _ => true | _ => false) (#[s, x].map a.eval)).run P w = .ok (.value v) w' := by
          intro v w' hh
          simp [builtin, hh]
        have hn0 : 0 < news.length := Nat.pos_of_ne_zero fun h => hne (List.eq_nil_of_length_eq_zero h)
        split at h
        · rename_i o len ee
          split at h
          · rename_i sz es ho
            obtain ⟨g1, hsz0, rfl, g2, g3, hK⟩ := h
            simp only at hsz0
            subst hsz0
            simp only [most] at g2
            rw [ee] at hs
            generalize hsv : a.eval s = sv at hs
            cases hs with
            | @msl _ _ _ A0 cap hol hc hn hh =>
              obtain ⟨a1, a2, a3⟩ := hh _ _ _ ho rfl
              simp only [Nat.zero_mul, Nat.zero_add] at a1 a3
              obtain ⟨vs, et, hv, b1, b2, b3, b4, b5, b6⟩ := hM.ob o _ ho
              have t1 : (vs.toList.take (es.length * ni.size)).length = es.length * ni.size := by
                simp; rw [b1]; exact Nat.min_eq_left (Nat.mul_le_mul_right _ b2)
              have t2 : ∀ i (_ : i < es.length) j (_ : j < es[i].cells.length), ∃ v, (vs.toList.take (es.length * ni.size))[i * ni.size + j]? = some v ∧ v.oneCell' = true ∧ RelC w Pr p st.os (fun k => p.ow k = some (o, i * ni.size + j)) es[i].cells[j] v := fun i hi j hj => by
                obtain ⟨v, k1, k2, k3⟩ := b5 i hi j hj
                exact ⟨v, by rw [List.getElem?_take, if_pos (idx_lt hi (by rw [← b4 i hi]; exact hj))]; simpa using k1, k2, k3⟩
              have hk := fun post => treeob_append (w := w) (Pr := Pr) (p := p) (st := st) (o := o) (post := post) t1 l1 b4 hn2 t2 l4 hlo
              by_cases hroom : es.length + news.length ≤ cap
              · have hA0 : A0 = some ⟨p.bl o, 0, none⟩ := by rcases a1 with h | h; exact h; omega
                subst hA0
                have hst := run_storeCells_at P (p.bl o) (es.length * ni.size) et nl 0 vs w hv (by
                  rw [Nat.add_zero, l1, b1, ← Nat.add_mul]; exact Nat.mul_le_mul_right _ (by omega)) l3
                simp only [Nat.add_zero] at hst
                have hf := run_firstCells_some (P := P) w ni.size news.length ad news.length c nl l1 l2
                have hrun : (Builtin.append_ #[t', t'] type #[.slice (some ⟨p.bl o, 0, none⟩) es.length cap, .slice (some ad) news.length c]).run P w =
                    .ok (.slice (some ⟨p.bl o, 0, none⟩) (es.length + news.length) cap) (w.setRow (p.bl o) (vs.toList.take (es.length * ni.size) ++ nl ++ vs.toList.drop (es.length * ni.size + nl.length)).toArray) := by
                  simp [Builtin.append_, run_underlying q2, sizeOf, typeInfo, i1, Builtin.lenOf, hroom, hf, Addr.add_lit, hst]
                have htot : (vs.toList.take (es.length * ni.size) ++ nl ++ vs.toList.drop (es.length * ni.size + nl.length)).length = p.room o * ni.size := by
                  have : es.length * ni.size + nl.length ≤ vs.size := by rw [l1, b1, ← Nat.add_mul]; exact Nat.mul_le_mul_right _ (by omega)
                  simp only [List.length_append, t1, List.length_drop, Array.length_toList]; omega
                exact out_appendT_of hM hE ho g1 hv (w' := w.setRow (p.bl o) (vs.toList.take (es.length * ni.size) ++ nl ++ vs.toList.drop (es.length * ni.size + nl.length)).toArray) (.inl ⟨rfl, rfl, by simp⟩)
                  (setRow_heap w _ vs _ et _ hv) (fun k hk _ => setRow_other w _ k _ hk) rfl rfl rfl
                  (by simpa using htot) (by simp; omega) b3 (hk _) (by simp) (by omega) a3
                  (hbr _ _ (by rw [hsv, hxv]; exact hrun)) hK
              · have hbytes : (es.length + news.length) * ni.bytes ≤ 140737488355328 := g2
                have h63 : es.length + news.length ≤ maxLen := by simp only [maxLen]; omega
                have hcm := grownCap_le_maxLen w (es.length + news.length) cap e h63
                have hge := grownCap_ge w (es.length + news.length) cap e
                have holds : ∀ (bA : Addr), (bA = ⟨p.bl o, 0, none⟩ ∨ cap = 0) → ∀ j v, (vs.toList.take (es.length * ni.size))[j]? = some v → w.cell? (bA.add j) = some v := by
                  intro bA hbA j v hj
                  rw [List.getElem?_take] at hj
                  split at hj
                  · rename_i hlt
                    rcases hbA with rfl | hcap
                    · rw [Addr.add_none, Nat.zero_add]
                      simp only [World.cell?, hv]
                      simpa using hj
                    · have : es.length = 0 := by omega
                      rw [this] at hlt; simp at hlt
                  · cases hj
                have hz : (Builtin.zeroCells z.cells (grownCap w (es.length + news.length) cap e - (es.length + news.length))).toList.length = (grownCap w (es.length + news.length) cap e - (es.length + news.length)) * ni.size := by
                  simp [size_zeroCells, i6]
                have hfin : ∀ {ww : World} {cells : Array Value}, ww = w.drew.alloc (.cells cells e) → cells = (vs.toList.take (es.length * ni.size) ++ nl ++ (Builtin.zeroCells z.cells (grownCap w (es.length + news.length) cap e - (es.length + news.length))).toList).toArray →
                    (Builtin.append_ #[t', t'] type #[.slice A0 es.length cap, .slice (some ad) news.length c]).run P w = .ok (.slice (some ⟨w.heap.size, 0, none⟩) (es.length + news.length) (grownCap w (es.length + news.length) cap e)) ww →
                    Out nF w Pr p st a.tmps K ((builtin .append #[t', t'] type (#[s, x].map fun | .const _ => true | _ => false) (#[s, x].map a.eval)).run P w) := by
                  intro ww cells e1 e2 hrun
                  subst e1; subst e2
                  refine out_appendT_of hM hE ho g1 hv (w' := w.drew.alloc (.cells _ e)) (b := w.heap.size) (room := grownCap w (es.length + news.length) cap e) (.inr ⟨rfl, by show (w.heap.push _).size = _; simp⟩) (heap_alloc_new w.drew _) (fun k _ hk => heap_alloc_old w.drew _ k hk) rfl rfl rfl
                    ?_ (by simp; omega) hcm (hk _) (by simp) (by omega) (Nat.le_refl _)
                    (hbr _ _ (by rw [hsv, hxv]; exact hrun)) hK
                  simp only [List.size_toArray, List.length_append, t1, l1, hz, ← Nat.add_mul]
                  congr 1; omega
                cases A0 with
                | some bA =>
                  have hrun := run_append_grow (P := P) w t' type e ni z q2 i1 i3 bA es.length cap (vs.toList.take (es.length * ni.size)) t1
                    (holds bA (by rcases a1 with h | h; exact .inl (Option.some.inj h); exact .inr h)) ad news.length c nl l1 l2 (by omega) (by omega) (growslice_fits (by omega) hbytes)
                  exact hfin rfl (by simp) hrun
                | none =>
                  have hc0 : cap = 0 := by rcases a1 with h | h; cases h; exact h
                  have hes : es.length = 0 := by omega
                  subst hc0
                  have hes' : es = [] := List.eq_nil_of_length_eq_zero hes
                  subst hes'
                  have hrun := run_append_nil (P := P) w t' type e ni z q2 i1 i3 ad news.length c nl l1 l2 (by omega) (by omega) (by simp at hbytes; omega)
                  refine hfin rfl ?_ (by simpa using hrun)
                  simp
          · exact h.elim
        · exact h.elim
      · exact h.elim
    · exact h.elim
  · exact h.elim

end
end Go.PL

/- PlSound -/
namespace Go.PL
open Go

/-- The marks of ranges over functions that are over: their blocks hold no call. -/
def Marks (b : Nat) (w : World) : List Deferred → Prop
  | [] => True
  | d :: r => (∃ D, d = { target := .collected D, args := #[] } ∧ b ≤ D ∧ w.heap[D]? = some (.deferred (some [])) ∧ ∀ e ∈ r, e ≠ { target := .collected D, args := #[] }) ∧ Marks b w r

theorem Marks.keep {b : Nat} {w w' : World} (h : ∀ D, b ≤ D → w.heap[D]? = some (.deferred (some [])) → w'.heap[D]? = some (.deferred (some []))) : ∀ {l : List Deferred}, Marks b w l → Marks b w' l
  | [], _ => trivial
  | _ :: r, ⟨⟨D, h1, h2, h3, h4⟩, h5⟩ => ⟨⟨D, h1, h2, h D h2 h3, h4⟩, Marks.keep h h5⟩

theorem Marks.step {b nF : Nat} {w w' : World} {Pr Pr' : Pro} {p p' : Place} {os os' : List Ob} (hM : Mem w Pr p os) (hs : Step w w' Pr Pr' p p' os os' nF) {l : List Deferred} (h : Marks b w l) : Marks b w' l := by
  refine h.keep fun D _ hD => ?_
  rw [hs.frm.block D (Array.getElem?_eq_some_iff.1 hD).1]
  · exact hD
  · rintro ⟨o, ob, h1, h2, rfl | ⟨ht, c, hk⟩⟩
    · have h3 := hM.ob o ob h1
      cases ob with
      | var cs fz => obtain ⟨vs, et, k1, _⟩ := h3; rw [hD] at k1; cases k1
      | arr sz es fz => obtain ⟨vs, et, k1, _⟩ := h3; rw [hD] at k1; cases k1
      | tree sz es => obtain ⟨vs, et, k1, _⟩ := h3; rw [hD] at k1; cases k1
      | dead => exact h2 rfl
    · obtain ⟨⟨vs, et, k1⟩, _⟩ := hM.own o ob D c h1 ht hk
      rw [hD] at k1; cases k1

/-- What is known of an activation: memory, its frame. -/
structure Rel (g : Ghost) (st : St) (a : Act) (w : World) : Prop where
  ex : ∃ Pr p, Inv g w Pr p st.os ∧ EnvR w Pr p st.os a.tmps st.env
  defers : Marks g.w0.heap.size w a.defers

section
variable {P : Program} {T : Tab} [TOk T P]

theorem opK_sound {nF : Nat} {w : World} {Pr : Pro} {p : Place} {st : St} {a : Act} {K : V → St → Prop} (hM : Mem w Pr p st.os) (hE : EnvR w Pr p st.os a.tmps st.env) (hD : ∀ x ∈ T.gs, RelD w Pr (.ptr x.2) (.pointer (some ⟨x.1, 0, none⟩))) (hnF : nF ≤ st.os.length)
    (o : Oper) (h : opK T nF st o.op K) : Out nF w Pr p st a.tmps K ((execOp a.eval o).run P w) := by
  obtain ⟨dst, op, type, pos, after, guard⟩ := o
  simp only at h
  cases op with
  | move x => exact out_move hM hE (by simpa only [opK] using h)
  | assign x => exact out_assign hM hE (by simpa only [opK] using h)
  | pick c x y => exact out_pick hM hE h
  | alloc t => exact out_alloc hM hE hnF h
  | box t x => exact out_box hM hE hnF h
  | build t parts => exact out_build hM hE h
  | buildSlice t len parts => exact out_buildSlice hM hE hnF h
  | load t x => exact out_load hM hE hD h
  | store t x y => exact out_store hM hE hnF h
  | nilCheck x => exact out_nilCheck hM hE h
  | binOp op t x y yt => exact out_binOp hM hE h
  | unOp op t x => exact out_unOp hM hE h
  | convert s t x => exact out_convert hM hE h
  | makeFunc f x y => exact out_makeFunc hM hE h
  | makeSlice t l c => exact out_makeSlice hM hE hnF h
  | slice t x lo hi mx => exact out_slice hM hE h
  | fieldAddr s x f => exact out_fieldAddr hM hE h
  | field s x f => exact out_field hM hE h
  | indexAddr t x ix => exact out_indexAddr hM hE h
  | index t x ix => exact out_index hM hE h
  | extract x i => exact out_extract hM hE h
  | call c =>
    obtain ⟨callee, args, ats⟩ := c
    cases callee with
    | builtin b =>
      cases b <;> first
        | exact out_len hM hE h
        | exact out_append hM hE hnF h
        | exact out_max hM hE h
        | exact out_min hM hE h
        | (simp only [opK] at h)
    | value f => simp only [opK] at h
    | invoke r m => simp only [opK] at h
  | _ => simp only [opK] at h

/-- Less known is still known. -/
theorem sub_look {env : List (Nat × V)} : ∀ {env' : List (Nat × V)}, sub env env' → ∀ t, look env' t = look env t ∨ look env' t = .any
  | [], _, t => .inr rfl
  | (k, v) :: r, h, t => by
    obtain ⟨h1, h2⟩ := h
    simp only [look]
    cases hb : Nat.beq k t with
    | true => rw [cond_true]; left; rw [← Nat.eq_of_beq_eq_true hb, h1]
    | false => rw [cond_false]; exact sub_look h2 t

theorem look_mem {env : List (Nat × V)} (t : Nat) : look env t = .any ∨ ∃ x ∈ env, x.2 = look env t := by
  induction env with
  | nil => exact .inl rfl
  | cons x r ih =>
    obtain ⟨k, v⟩ := x
    simp only [look]
    cases Nat.beq k t with
    | true => exact .inr ⟨(k, v), by simp, rfl⟩
    | false =>
      rcases ih with h | ⟨x, h1, h2⟩
      · exact .inl h
      · exact .inr ⟨x, by simp [h1], h2⟩

section
variable {w : World} {Pr : Pro} {p : Place} {os tl : List Ob}

theorem RelV.drop1 {x : V} {v : Value} (h : RelV w Pr p (os ++ tl) x v) (hb : x.bnd1 os.length = true) : RelV w Pr p os x v := by
  cases h with
  | d h => exact .d h
  | @ref o i j a ho h =>
    have hlt : o < os.length := by simpa [V.bnd1, Nat.blt_eq] using hb
    exact .ref hlt fun ob h1 h2 => h ob (by rw [List.getElem?_append_left hlt]; exact h1) h2
  | @msl o off len A cap ho hl hn h =>
    have hlt : o < os.length := by simpa [V.bnd1, Nat.blt_eq] using hb
    exact .msl hlt hl hn fun ob sz n h1 h1' => h ob sz n (by rw [List.getElem?_append_left hlt]; exact h1) h1'
  | any => exact .any
  | _ => simp [V.bnd1] at hb

theorem RelV.drop {x : V} {v : Value} (h : RelV w Pr p (os ++ tl) x v) (hb : x.bnd os.length = true) : RelV w Pr p os x v := by
  cases x with
  | agg cs =>
    cases h with
    | agg hz hr =>
      simp only [V.bnd, List.all_eq_true] at hb
      exact .agg hz fun i hi => (hr i hi).drop1 (hb _ (List.getElem_mem hi))
  | fn f x1 x2 =>
    cases h with
    | fn h1 h2 h3 h4 =>
      simp only [V.bnd, Bool.and_eq_true, List.all_eq_true] at hb
      exact .fn h1 h2 (fun i hi => (h3 i hi).drop1 (hb.1 _ (List.getElem_mem hi))) (fun i hi => (h4 i hi).drop1 (hb.2 _ (List.getElem_mem hi)))
  | _ => exact h.drop1 hb

theorem RelC.drop1 {S : Nat → Prop} {x : V} {v : Value} (h : RelC w Pr p (os ++ tl) S x v) (hb : x.bnd1 os.length = true) : RelC w Pr p os S x v := by
  cases x with
  | d x => exact h
  | _ => exact RelV.drop1 h hb

theorem RelC.dropC {S : Nat → Nat → Prop} {x : V} (hb : x.bnd os.length = true) : ∀ j (hj : j < x.cells.length) v, RelC w Pr p (os ++ tl) (S j) x.cells[j] v → RelC w Pr p os (S j) x.cells[j] v := by
  intro j hj v h
  cases x with
  | agg cs =>
    simp only [V.bnd, List.all_eq_true] at hb
    exact h.drop1 (hb _ (List.getElem_mem hj))
  | d x =>
    simp only [V.cells, List.getElem_map] at h ⊢
    exact h
  | _ =>
    have : j = 0 := by simp [V.cells] at hj; exact hj
    subst this
    exact RelV.drop h hb

theorem Mem.drop (hM : Mem w Pr p (os ++ tl)) (hb : os.all (Ob.bnd os.length) = true) : Mem w Pr p os := by
  have get : ∀ {o : Nat} {ob : Ob}, os[o]? = some ob → (os ++ tl)[o]? = some ob ∧ ob ∈ os := by
    intro o ob h
    have hlt : o < os.length := by
      rcases Nat.lt_or_ge o os.length with h1 | h1
      · exact h1
      · rw [List.getElem?_eq_none h1] at h; cases h
    exact ⟨by rw [List.getElem?_append_left hlt]; exact h, List.mem_of_getElem? h⟩
  refine ⟨hM.prIn, fun o ob h hd => hM.blk o ob (get h).1 hd, fun o o' a b h1 h2 => hM.inj o o' a b (get h1).1 (get h2).1, fun o ob h => ?_, fun o ob k c h ht hk => by
    obtain ⟨a1, a2, a3⟩ := hM.own o ob k c (get h).1 ht hk
    exact ⟨a1, a2, fun o' ob' h4 => a3 o' ob' (get h4).1⟩⟩
  have h1 := hM.ob o ob (get h).1
  have h2 := List.all_eq_true.1 hb ob (get h).2
  cases ob with
  | var cs fz =>
    obtain ⟨vs, et, g1, g2, g3, g4⟩ := h1
    refine ⟨vs, et, g1, g2, fun j hj => ?_, g4⟩
    obtain ⟨v, k1, k2, k3⟩ := g3 j hj
    simp only [Ob.bnd, List.all_eq_true] at h2
    exact ⟨v, k1, k2, k3.drop (h2 _ (List.getElem_mem hj))⟩
  | arr sz es fz => exact h1
  | dead => trivial
  | tree sz es =>
    obtain ⟨vs, et, g1, g2, g3, g4, g5, g6, g7⟩ := h1
    simp only [Ob.bnd, List.all_eq_true] at h2
    refine ⟨vs, et, g1, g2, g3, g4, g5, fun i hi j hj => ?_, g7⟩
    obtain ⟨v, k1, k2, k3⟩ := g6 i hi j hj
    exact ⟨v, k1, k2, RelC.dropC (S := fun j k => p.ow k = some (o, i * sz + j)) (h2 _ (List.getElem_mem hi)) j hj v k3⟩

end

theorem Inv.drop {g : Ghost} {w : World} {Pr : Pro} {p : Place} {os tl : List Ob} (h : Inv g w Pr p (os ++ tl)) (hb : os.all (Ob.bnd os.length) = true) (hl : g.os0.length ≤ os.length) : Inv g w Pr p os := by
  have get : ∀ {o : Nat} {ob : Ob}, os[o]? = some ob → (os ++ tl)[o]? = some ob := by
    intro o ob h
    have hlt : o < os.length := by
      rcases Nat.lt_or_ge o os.length with h1 | h1
      · exact h1
      · rw [List.getElem?_eq_none h1] at h; cases h
    rw [List.getElem?_append_left hlt]; exact h
  exact ⟨h.mem.drop hb, h.frm, h.stab, h.prN, ⟨hl, fun o ob' ho h1 h2 => h.cmp.live o ob' ho (get h1) h2, fun o ob sz n ho h1 => h.cmp.arr o ob sz n ho (get h1)⟩, fun k ⟨o, ob, h1, h2⟩ => h.own k ⟨o, ob, get h1, h2⟩⟩

/-- The objects under other numbers. -/
def Place.ren (p : Place) (f : Nat → Nat) : Place := ⟨fun o => p.bl (f o), fun o => p.room (f o), fun k => (p.ow k).map fun x => (f x.1, x.2)⟩

theorem Place.ren_ow {p : Place} {f : Nat → Nat} (hf : ∀ o, f (f o) = o) {k o c : Nat} : (p.ren f).ow k = some (o, c) ↔ p.ow k = some (f o, c) := by
  simp only [Place.ren]
  cases p.ow k with
  | none => simp
  | some x =>
    obtain ⟨a, b⟩ := x
    constructor
    · intro h; cases h; rw [hf]
    · intro h; cases h; show some (f (f o), c) = _; rw [hf]

theorem Ob.ren_al (f : Nat → Nat) (ob : Ob) : (ob.ren f).al = ob.al := by cases ob <;> simp [Ob.ren, Ob.al]
theorem Ob.ren_tree (f : Nat → Nat) (ob : Ob) : (ob.ren f).isTree = ob.isTree := by cases ob <;> rfl

theorem Ob.ren_sz (f : Nat → Nat) (ob : Ob) : (ob.ren f).sz = ob.sz := by cases ob <;> simp [Ob.ren, Ob.sz]
theorem Ob.ren_dead {f : Nat → Nat} {ob : Ob} : ob.ren f = .dead ↔ ob = .dead := by cases ob <;> simp [Ob.ren]

section
variable {w : World} {Pr : Pro} {p : Place} {os os' : List Ob} {f : Nat → Nat}

structure Ren (f : Nat → Nat) (os os' : List Ob) : Prop where
  inv : ∀ o, f (f o) = o
  len : os'.length = os.length
  bnd : ∀ o, o < os.length → f o < os.length
  ob : ∀ o, o < os.length → os'[o]? = (os[f o]?).map (Ob.ren f)

theorem Ren.back (h : Ren f os os') {o : Nat} {ob' : Ob} (ho : os'[o]? = some ob') : ∃ ob, os[f o]? = some ob ∧ ob' = ob.ren f := by
  have hlt : o < os.length := by
    rcases Nat.lt_or_ge o os.length with q | q
    · exact q
    · rw [List.getElem?_eq_none (by rw [h.len]; exact q)] at ho; cases ho
  rw [h.ob o hlt] at ho
  cases hx : os[f o]? with
  | none => rw [hx] at ho; cases ho
  | some ob => rw [hx] at ho; exact ⟨ob, rfl, (Option.some.inj ho).symm⟩

theorem RelV.ren1 (h : Ren f os os') {x : V} {v : Value} (hr : RelV w Pr p os x v) : RelV w Pr (p.ren f) os' (x.ren1 f) v := by
  cases hr with
  | d h => exact .d h
  | @ref o i j a ho hh =>
    refine .ref (by rw [h.len]; exact h.bnd o ho) fun ob' h1 h2 => ?_
    obtain ⟨ob, k1, rfl⟩ := h.back h1
    rw [h.inv] at k1
    rw [hh ob k1 (fun e => h2 (Ob.ren_dead.2 e)), Ob.ren_sz]
    simp [Place.ren, h.inv]
  | @msl o off len A cap ho hc hn hh =>
    refine .msl (by rw [h.len]; exact h.bnd o ho) hc hn fun ob' sz n h1 h1' => ?_
    obtain ⟨ob, k1, rfl⟩ := h.back h1
    rw [h.inv] at k1
    have := hh ob sz n k1 (by rw [← Ob.ren_al f]; exact h1')
    simpa [Place.ren, h.inv] using this
  | _ => exact .any

theorem RelV.ren (h : Ren f os os') {x : V} {v : Value} (hr : RelV w Pr p os x v) : RelV w Pr (p.ren f) os' (x.ren f) v := by
  cases x with
  | agg cs =>
    cases hr with
    | agg hz hr => exact .agg (by simpa using hz) fun i hi => by rw [List.getElem_map]; exact (hr i (by simpa using hi)).ren1 h
  | fn g x1 x2 =>
    cases hr with
    | fn h1 h2 h3 h4 => exact .fn (by simpa using h1) (by simpa using h2) (fun i hi => by rw [List.getElem_map]; exact (h3 i (by simpa using hi)).ren1 h) (fun i hi => by rw [List.getElem_map]; exact (h4 i (by simpa using hi)).ren1 h)
  | _ => exact hr.ren1 h

theorem RelC.ren1 (h : Ren f os os') {S S' : Nat → Prop} (hS : ∀ k, S k → S' k) {x : V} {v : Value} (hr : RelC w Pr p os S x v) : RelC w Pr (p.ren f) os' S' (x.ren1 f) v := by
  cases x with
  | d x => exact Tr.mono hr fun k hk => ⟨hS k hk, rfl⟩
  | msl o a b => exact RelV.ren1 (x := .msl o a b) h hr
  | ref o a b => exact RelV.ren1 (x := .ref o a b) h hr
  | _ => exact .any

theorem RelC.renC (h : Ren f os os') {S S' : Nat → Nat → Prop} (hS : ∀ j k, S j k → S' j k) (x : V) :
    ∃ e : (x.ren f).cells.length = x.cells.length, ∀ j (hj : j < x.cells.length) v, RelC w Pr p os (S j) x.cells[j] v → RelC w Pr (p.ren f) os' (S' j) ((x.ren f).cells[j]'(by omega)) v := by
  cases x with
  | agg cs =>
    refine ⟨by simp [V.ren, V.cells], fun j hj v hr => ?_⟩
    simp only [V.ren, V.cells, List.getElem_map] at hr ⊢
    exact hr.ren1 h (hS j)
  | d x =>
    refine ⟨rfl, fun j hj v hr => ?_⟩
    simp only [V.ren, V.ren1, V.cells, List.getElem_map] at hr ⊢
    exact Tr.mono hr fun k hk => ⟨hS j k hk, rfl⟩
  | fn g a b =>
    refine ⟨rfl, fun j hj v hr => ?_⟩
    have : j = 0 := by simp [V.cells] at hj; exact hj
    subst this
    exact RelV.ren (x := .fn g a b) h hr
  | msl o a b =>
    refine ⟨rfl, fun j hj v hr => ?_⟩
    have : j = 0 := by simp [V.cells] at hj; exact hj
    subst this
    exact RelV.ren1 (x := .msl o a b) h hr
  | ref o a b =>
    refine ⟨rfl, fun j hj v hr => ?_⟩
    have : j = 0 := by simp [V.cells] at hj; exact hj
    subst this
    exact RelV.ren1 (x := .ref o a b) h hr
  | tup cs =>
    refine ⟨rfl, fun j hj v hr => ?_⟩
    have : j = 0 := by simp [V.cells] at hj; exact hj
    subst this
    exact .any
  | any =>
    refine ⟨rfl, fun j hj v hr => ?_⟩
    have : j = 0 := by simp [V.cells] at hj; exact hj
    subst this
    exact .any

theorem Mem.ren (h : Ren f os os') (hM : Mem w Pr p os) : Mem w Pr (p.ren f) os' := by
  refine ⟨hM.prIn, fun o ob h1 hd => ?_, fun o o' a b h1 h2 hd1 hd2 e => ?_, fun o ob h1 => ?_, fun o ob k c h1 ht hk => ?_⟩
  rotate_left 3
  · obtain ⟨ob0, k1, rfl⟩ := h.back h1
    rw [Ob.ren_tree] at ht
    obtain ⟨a1, a2, a3⟩ := hM.own _ ob0 k c k1 ht ((Place.ren_ow h.inv).1 hk)
    refine ⟨a1, a2, fun o' ob' h4 h5 => ?_⟩
    obtain ⟨ob1, k4, rfl⟩ := h.back h4
    exact a3 _ ob1 k4 fun e => h5 (Ob.ren_dead.2 e)
  · obtain ⟨ob0, k1, rfl⟩ := h.back h1
    exact hM.blk _ ob0 k1 fun e => hd (Ob.ren_dead.2 e)
  · obtain ⟨a0, k1, rfl⟩ := h.back h1
    obtain ⟨b0, k2, rfl⟩ := h.back h2
    have := hM.inj _ _ a0 b0 k1 k2 (fun e => hd1 (Ob.ren_dead.2 e)) (fun e => hd2 (Ob.ren_dead.2 e)) e
    rw [← h.inv o, this, h.inv]
  · obtain ⟨ob0, k1, rfl⟩ := h.back h1
    have h3 := hM.ob _ ob0 k1
    cases ob0 with
    | var cs fz =>
      obtain ⟨vs, et, g1, g2, g3, g4⟩ := h3
      refine ⟨vs, et, g1, by simpa using g2, fun j hj => ?_, fun j => by rw [List.length_map]; exact g4 j⟩
      obtain ⟨v, q1, q2, q3⟩ := g3 j (by simpa using hj)
      exact ⟨v, q1, q2, by rw [List.getElem_map]; exact q3.ren h⟩
    | arr sz es fz => exact h3
    | dead => trivial
    | tree sz es =>
      obtain ⟨vs, et, g1, g2, g3, g4, g5, g6, g7⟩ := h3
      have hk := fun i x => RelC.renC (w := w) (Pr := Pr) (p := p) h (S := fun j k => p.ow k = some (f o, i * sz + j)) (S' := fun j k => (p.ren f).ow k = some (o, i * sz + j)) (fun j k => (Place.ren_ow h.inv).2) x
      refine ⟨vs, et, g1, g2, by simpa [Place.ren] using g3, g4, fun i hi => ?_, fun i hi j hj => ?_, g7⟩
      · simp only [List.length_map] at hi
        obtain ⟨e, _⟩ := hk i es[i]
        rw [List.getElem_map, e]; exact g5 i hi
      · simp only [List.length_map] at hi
        obtain ⟨e, hk⟩ := hk i es[i]
        simp only [List.getElem_map] at hj ⊢
        obtain ⟨v, q1, q2, q3⟩ := g6 i hi j (by omega)
        exact ⟨v, q1, q2, hk j (by omega) v q3⟩

theorem Inv.ren {g : Ghost} (h : Ren f os os') (hn : ∀ o, o < g.os0.length → f o = o) (hI : Inv g w Pr p os) : Inv g w Pr (p.ren f) os' := by
  refine ⟨hI.mem.ren h, hI.frm, hI.stab, hI.prN, ⟨by rw [h.len]; exact hI.cmp.len, fun o ob' ho h1 h2 => ?_, fun o ob' sz n ho h1 h1' => ?_⟩, ?_⟩
  · obtain ⟨ob, k1, rfl⟩ := h.back h1
    rw [hn o ho] at k1
    obtain ⟨ob0, q1, q2, q3, q4, q5⟩ := hI.cmp.live o ob ho k1 (fun e => h2 (Ob.ren_dead.2 e))
    exact ⟨ob0, q1, q2, by simp only [Place.ren, hn o ho]; exact q3, by simp only [Place.ren, hn o ho]; exact q4, by rw [Ob.ren_sz]; exact q5⟩
  · obtain ⟨ob, k1, rfl⟩ := h.back h1
    rw [hn o ho] at k1
    exact hI.cmp.arr o ob sz n ho k1 (by rw [← Ob.ren_al f]; exact h1')
  · rintro k ⟨o, ob, h1, h2, h3⟩
    obtain ⟨ob0, k1, rfl⟩ := h.back h1
    rw [Ob.ren_tree] at h3
    exact hI.own k ⟨f o, ob0, k1, fun e => h2 (Ob.ren_dead.2 e), h3.imp_right fun ⟨a, c, b⟩ => ⟨a, c, (Place.ren_ow h.inv).1 b⟩⟩

end

theorem look_map0 {f : V → V} (hf : f .any = .any) (t : Nat) : ∀ env : List (Nat × V), look (env.map fun x => (x.1, f x.2)) t = f (look env t)
  | [] => hf.symm
  | (k, v) :: r => by
    simp only [List.map_cons, look]
    cases Nat.beq k t with
    | true => rfl
    | false => exact look_map0 hf t r

theorem Weak.rel {g : Ghost} {a : Act} {w : World} {nF : Nat} (hg : g.os0.length = nF) {s s' : St} (h : Weak nF s s') : Rel g s a w → Rel g s' a w := by
  subst hg
  induction h with
  | @dead s =>
    rintro ⟨⟨Pr, p, h1, h2⟩, h3⟩
    obtain ⟨m, hc⟩ := g_dead h1.mem h1.cmp.len
    exact ⟨⟨Pr, _, h1.step m.step m.mem, EnvR.moved (.refl _ _) hc h2⟩, h3⟩
  | @tc s o sz es es' ho h =>
    rintro ⟨⟨Pr, p, h1, h2⟩, h3⟩
    obtain ⟨m, hc⟩ := g_tc h1.mem h1.cmp.len ho h
    exact ⟨⟨Pr, _, h1.step m.step m.mem, EnvR.moved (.refl _ _) hc h2⟩, h3⟩
  | @toTree s o sz es ho hf =>
    rintro ⟨⟨Pr, p, h1, h2⟩, h3⟩
    obtain ⟨m, hc⟩ := g_toTree h1.mem h1.cmp.len ho hf
    exact ⟨⟨Pr, _, h1.step m.step m.mem, EnvR.moved (.refl _ _) hc h2⟩, h3⟩
  | @ofTree s o sz es ho hf =>
    rintro ⟨⟨Pr, p, h1, h2⟩, h3⟩
    obtain ⟨m, hc⟩ := g_ofTree h1.mem h1.cmp.len ho hf
    exact ⟨⟨Pr, _, h1.step m.step m.mem, EnvR.moved (.refl _ _) hc h2⟩, h3⟩
  | @unfold s o e j sz n es xs ho he hj hx hn =>
    rintro ⟨⟨Pr, p, h1, h2⟩, h3⟩
    obtain ⟨p', m, hc⟩ := g_unfold h1.mem h1.cmp.len ho he hj hx hn
    exact ⟨⟨Pr, p', h1.step m.step m.mem, EnvR.moved (.refl _ _) hc h2⟩, h3⟩
  | @fold s o e j q len sz n es xs ho he hj hl hq hne =>
    rintro ⟨⟨Pr, p, h1, h2⟩, h3⟩
    obtain ⟨p', m, hc⟩ := g_fold h1.mem h1.cmp.len ho he hj hl hq hne
    exact ⟨⟨Pr, p', h1.step m.step m.mem, EnvR.moved (.refl _ _) hc h2⟩, h3⟩
  | env he ho =>
    rintro ⟨⟨Pr, p, h1, h2⟩, h3⟩
    refine ⟨⟨Pr, p, by rw [ho]; exact h1, fun t => ?_⟩, h3⟩
    rw [ho]
    rcases sub_look he t with h | h
    · rw [h]; exact h2 t
    · rw [h]; exact .any
  | @drop s s' tl hl he ho hb1 hb2 =>
    rintro ⟨⟨Pr, p, h1, h2⟩, h3⟩
    rw [ho] at h1 h2
    refine ⟨⟨Pr, p, h1.drop hb2 hl, fun t => ?_⟩, h3⟩
    rcases sub_look he t with h | h
    · rcases look_mem (env := s'.env) t with h4 | ⟨x, h4, h5⟩
      · rw [h4]; exact .any
      · have := List.all_eq_true.1 hb1 x h4
        have h6 := h2 t
        rw [← h] at h6
        exact h6.drop (by rw [← h5]; exact this)
    · rw [h]; exact .any
  | @fz s l =>
    rintro ⟨⟨Pr, p, h1, h2⟩, h3⟩
    have hl : g.os0.length ≤ s.os.length := h1.cmp.len
    obtain ⟨Pr', m, s1, c1, _⟩ := frozenM (nF := g.os0.length) hl l h1.mem
    exact ⟨⟨Pr', p, h1.step m.step m.mem, EnvR.moved s1 c1 h2⟩, h3⟩
  | @thaw s o t off len sz es ho ht =>
    rintro ⟨⟨Pr, p, h1, h2⟩, h3⟩
    refine ⟨⟨Pr, p, h1, fun k => ?_⟩, h3⟩
    simp only [look]
    cases hb : Nat.beq t k with
    | false => exact h2 k
    | true =>
      rw [cond_true]
      have h4 := h2 t
      rw [ht] at h4
      rw [← Nat.eq_of_beq_eq_true hb]
      obtain ⟨_, _, _, _, _, _, _, _, g⟩ := h1.mem.ob o _ ho
      generalize a.tmps.getD t undef = v at h4
      have h5 := h4
      cases h4 with
      | msl => exact .d (RelD.of_arr h1.mem (.refl _ _) ho (fun j hj => (g j).2 ⟨rfl, hj⟩) h5)
  | @trans a' b c h1 h2 ih1 ih2 => exact fun hr => ih2 (ih1 hr)
  | @ren s os' f hf hn hl hb ho =>
    rintro ⟨⟨Pr, p, h1, h2⟩, h3⟩
    have h : Ren f s.os os' := ⟨hf, hl, hb, ho⟩
    refine ⟨⟨Pr, p.ren f, h1.ren h hn, fun t => ?_⟩, h3⟩
    simp only
    rw [look_map0 rfl]
    exact (h2 t).ren h
  | @le s s' he hl ho =>
    rintro ⟨⟨Pr, p, h1, h2⟩, h3⟩
    have hc := ObLe.cmp (p := p) hl ho
    refine ⟨⟨Pr, p, ⟨ObLe.mem hl ho h1.mem, h1.frm, h1.stab, h1.prN, h1.cmp.trans hc, ?_⟩, fun t => (he t).rel ((h2 t).cmp (.refl _ _) hc)⟩, h3⟩
    rintro k ⟨o, ob', g1, g2, g3⟩
    have hlt : o < s'.os.length := by
      rcases Nat.lt_or_ge o s'.os.length with q | q
      · exact q
      · rw [List.getElem?_eq_none q] at g1; cases g1
    have e : s'.os[o] = ob' := by rw [List.getElem?_eq_getElem hlt] at g1; exact Option.some.inj g1
    have h4 := ho o (by omega)
    rw [e] at h4
    rw [← h4.al.2] at g3
    exact h1.own k ⟨o, _, List.getElem?_eq_getElem (by omega), fun e => g2 (h4.fz.1.1 e), g3⟩

end
end Go.PL
