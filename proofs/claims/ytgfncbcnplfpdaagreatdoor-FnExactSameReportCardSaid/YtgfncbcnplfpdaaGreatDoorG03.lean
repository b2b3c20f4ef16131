/- A plain machine, sound for the given model, and contracts of functions over it, part 3: PlOpsA PlOpsB PlSound. Nothing is assumed. -/
import Derived.Test.YtgfncbcnplfpdaaGreatDoorG02
import Derived.Laws.BytesArg
set_option linter.unusedSimpArgs false
set_option linter.unusedVariables false
set_option linter.unusedSectionVars false
/- PlOpsA -/
namespace Go.PL
open Go

section
variable {P : Program} {T : Tab} [TOk T P] {nF : Nat} {w : World} {Pr : Pro} {p : Place} {st : St} {a : Act} {K : V → St → Prop}
variable {dst : Option Tmp} {type : TypeId} {pos : String} {after : Array Edge} {guard : Option (Nat × Bool)}

/-- The cells of elements, one behind the other. -/
def cellsOf (es : List D) : List D := es.flatMap D.cells

theorem cellsOf_len {sz : Nat} : ∀ {es : List D}, (∀ e ∈ es, e.cells.length = sz) → (cellsOf es).length = es.length * sz
  | [], _ => by simp [cellsOf]
  | e :: r, h => by
    have := cellsOf_len (fun x hx => h x (List.mem_cons_of_mem _ hx))
    simp only [cellsOf, List.flatMap_cons, List.length_append] at this ⊢
    rw [this, h e (by simp), List.length_cons, Nat.succ_mul, Nat.add_comm]

/-- What an appended slice holds. -/
theorem src_rel (hM : Mem w Pr p st.os) {x : V} {v : Value} {news : List D} {sz : Nat} (h : elems st.os x = some news) (hr : RelV w Pr p st.os x v) (hsz : ∀ e ∈ news, e.cells.length = sz) :
    ∃ A n c, v = .slice A n c ∧ n = news.length ∧ (0 < n → ∃ (ad : Addr) (vs : Nat → Nat → Value), A = some ad ∧ ∀ i j, i < n → j < sz → w.cell? (ad.add (i * sz + j)) = some (vs i j) ∧ ∀ (hi : i < news.length) (hj : j < news[i].cells.length), RelD w Pr news[i].cells[j] (vs i j)) := by
  unfold elems at h
  split at h
  · cases h
    cases hr with
    | d hd => cases hd with
      | nil A cap => exact ⟨A, 0, cap, rfl, rfl, fun h => absurd h (Nat.lt_irrefl _)⟩
      | sl _ b off cap sz2 vs hcap hsz2 hp hc hrr =>
        refine ⟨_, _, cap, rfl, rfl, fun h0 => ⟨_, vs, rfl, fun i j hi hj => ?_⟩⟩
        have e : sz2 = sz := by rw [← hsz2 0 h0]; exact hsz _ (List.getElem_mem h0)
        subst e
        refine ⟨?_, fun hi' hj' => hrr i hi' j hj'⟩
        rw [Addr.add_none, ← Nat.add_assoc]
        exact hc i j hi hj
  · cases h
    exact ⟨none, 0, 0, hr.val, rfl, fun h => absurd h (Nat.lt_irrefl _)⟩
  · rename_i o off len
    split at h
    · rename_i sz2 es fz ho
      cases h
      cases hr with
      | @msl _ _ _ A cap hol hc hn hh =>
        obtain ⟨g1, g2, g3⟩ := hh _ _ _ ho
        have hlen : ((es.drop off).take len).length = len := by simp; omega
        obtain ⟨vs, et, q1, q2, q3, q4, q5, q6, q7⟩ := hM.ob o _ ho
        refine ⟨A, len, cap, rfl, hlen.symm, fun h0 => ?_⟩
        have hA : A = some ⟨p.bl o, off * sz2, none⟩ := by rcases g1 with h | h; exact h; omega
        have e : sz2 = sz := by
          rw [← q5 off (by omega)]
          have := hsz ((es.drop off).take len)[0] (List.getElem_mem (by omega))
          simpa using this
        subst e
        refine ⟨_, fun i j => (vs[(off + i) * sz2 + j]?).getD undef, hA, fun i j hi hj => ?_⟩
        have hi' : off + i < es.length := by omega
        obtain ⟨u, r1, r2, r3⟩ := q6 (off + i) hi' j (by rw [q5 _ hi']; exact hj)
        refine ⟨?_, fun h5 h6 => ?_⟩
        · rw [Addr.add_none, show off * sz2 + (i * sz2 + j) = (off + i) * sz2 + j by rw [Nat.add_mul]; omega]
          simp only [World.cell?, q1, r1]
          simp [r1]
        · simp only [r1, Option.getD_some]
          simpa using r3
    · cases h
  · cases h

/-- The cells of a slice as a list. -/
theorem src_list {n sz : Nat} {vs : Nat → Nat → Value} {ad : Addr} (h : ∀ i j, i < n → j < sz → w.cell? (ad.add (i * sz + j)) = some (vs i j)) :
    ∃ l : List Value, l.length = n * sz ∧ (∀ j u, l[j]? = some u → w.cell? (ad.add j) = some u) ∧ ∀ i j, i < n → j < sz → l[i * sz + j]? = some (vs i j) := by
  refine ⟨(List.range (n * sz)).map fun k => vs (k / sz) (k % sz), by simp, fun j u hj => ?_, fun i j hi hj => ?_⟩
  · rw [List.getElem?_map] at hj
    by_cases hlt : j < n * sz
    · rw [List.getElem?_range hlt] at hj
      simp at hj
      subst hj
      have hpos : 0 < sz := by
        rcases Nat.eq_zero_or_pos sz with h0 | h0
        · subst h0; simp at hlt
        · exact h0
      have := h (j / sz) (j % sz) (by rw [Nat.div_lt_iff_lt_mul hpos]; exact hlt) (Nat.mod_lt _ hpos)
      rwa [Nat.div_add_mod'] at this
    · rw [List.getElem?_eq_none (by simp; omega)] at hj; cases hj
  · have hlt : i * sz + j < n * sz := by
      have := Nat.mul_le_mul_right sz (show i + 1 ≤ n by omega)
      rw [Nat.succ_mul] at this; omega
    have hd : (i * sz + j) / sz = i := by
      rw [Nat.add_comm, Nat.add_mul_div_right _ _ (by omega), Nat.div_eq_of_lt hj, Nat.zero_add]
    have hm : (i * sz + j) % sz = j := by rw [Nat.add_comm, Nat.add_mul_mod_self_right, Nat.mod_eq_of_lt hj]
    rw [List.getElem?_map, List.getElem?_range hlt]
    simp [hd, hm]

theorem append_none_run {t e ty : TypeId} {ni : TypeInfo} (ht : P.underlying t = some (.slice e)) (hi : P.info? e = some ni) {base A : Option Addr} {n cap c : Nat} (hc : n ≤ cap) :
    (Builtin.append_ #[t, t] ty #[.slice base n cap, .slice A 0 c]).run P w = .ok (.slice base n cap) w := by
  have h2 : ∀ size, (Builtin.firstCells size 0 (.slice A 0 c)).run P w = .ok #[] w := by
    intro size
    cases A <;> simp [Builtin.firstCells, loadCells, loadCellsFrom]
  simp only [Builtin.append_, run_underlying ht, sizeOf, typeInfo, hi, Builtin.lenOf, Sem.run_bind, Sem.run_pure, Result.andThen_ok, run_program]
  cases base <;> simp [Builtin.append_, run_underlying ht, sizeOf, typeInfo, hi, Builtin.lenOf, hc, h2, storeCells]

theorem numsL_len : ∀ {l : List D} {ns : List Int}, numsL l = some ns → ns.length = l.length
  | [], ns, h => by simp only [numsL, Option.some.injEq] at h; subst h; rfl
  | d :: r, ns, h => by
    unfold numsL at h
    split at h
    · rename_i e; cases e
    · rename_i n r' e
      cases e
      cases hr : numsL r with
      | none => rw [hr] at h; cases h
      | some m => rw [hr] at h; cases h; simp [numsL_len hr]
    · cases h
theorem numsL_get : ∀ {l : List D} {ns : List Int}, numsL l = some ns → ∀ i (h : i < l.length), l[i] = .val (.int .u8 (ns.getD i 0))
  | d :: r, ns, h, i, hi => by
    unfold numsL at h
    split at h
    · rename_i e; cases e
    · rename_i n r' e
      cases e
      cases hr : numsL r with
      | none => rw [hr] at h; cases h
      | some m =>
        rw [hr] at h; cases h
        cases i with
        | zero => rfl
        | succ i => simpa using numsL_get hr i (by simpa using hi)
    · cases h
theorem numsL_sz {l : List D} {ns : List Int} (h : numsL l = some ns) : ∀ e ∈ l, e.cells.length = 1 := by
  intro e he
  obtain ⟨i, hi, rfl⟩ := List.getElem_of_mem he
  rw [numsL_get h i hi]; rfl
theorem run_convert_bytes_empty {P : Program} (w : World) (src e : TypeId) {dst : TypeId} (hs : P.underlying src = some (.slice e)) (he : P.underlying e = some (.int .u8)) (hd : P.underlying dst = some .string) (A : Option Addr) (c : Nat) :
    (convert src dst (.slice A 0 c)).run P w = .ok (.string (strB [])) w := by
  rw [run_convert_bytes_string w src dst e _ 0 c hs he hd]
  cases A <;> simp [Conv.bytesToString, loadCells]
  all_goals rfl

theorem out_convert (hM : Mem w Pr p st.os) (hE : EnvR w Pr p st.os a.tmps st.env) {s t : TypeId} {x : Operand} (h : opK T nF st (.convert s t x) K) :
    Out nF w Pr p st a.tmps K ((execOp a.eval ⟨dst, .convert s t x, type, pos, after, guard⟩).run P w) := by
  have hx := evalR hE x
  simp only [opK] at h
  split at h
  · rename_i k1 k2 k3 n h1 h2 e
    rw [e] at hx
    obtain ⟨n1, u1, _, q2, q3⟩ := tk_spec h1 (by simp)
    obtain ⟨n2, u2, _, r2, r3⟩ := tk_spec h2 (by simp)
    rw [TK.of_int q3] at q2
    rw [TK.of_int r3] at r2
    exact .pure hM hE h (by simp [execOp, hx.val, convert, run_underlying q2, run_underlying r2, Conv.intToInt]) (.d (.val _))
  · rename_i s1 h1 h2 e
    rw [e] at hx
    obtain ⟨n1, u1, _, q2, q3⟩ := tk_spec h1 (by simp)
    obtain ⟨n2, u2, _, r2, r3⟩ := tk_spec h2 (by simp)
    rw [TK.of_str q3] at q2
    rw [TK.of_str r3] at r2
    exact .pure hM hE h (by simp [execOp, hx.val, convert, run_underlying q2, run_underlying r2]) (.d (.val _))
  · rename_i e h1 h2
    obtain ⟨n1, u1, _, q2, q3⟩ := tk_spec h1 (by simp)
    obtain ⟨n2, u2, _, r2, r3⟩ := tk_spec h2 (by simp)
    rw [TK.of_sl q3] at q2
    rw [TK.of_str r3] at r2
    unfold bytesK at h
    split at h
    · rename_i l h4 h5
      split at h
      · rename_i ns hn
        obtain ⟨n3, u3, _, s2, s3⟩ := tk_spec h4 (by simp)
        rw [TK.of_int s3] at s2
        have hsz := numsL_sz hn
        obtain ⟨A, n, c, hv, hnn, hcells⟩ := src_rel hM h5 hx hsz
        have hlen := numsL_len hn
        rcases Nat.eq_zero_or_pos n with h0 | h0
        · subst h0
          have hns : ns = [] := List.eq_nil_of_length_eq_zero (by omega)
          subst hns
          refine .pure hM hE h ?_ (.d (.val _))
          have hrun := run_convert_bytes_empty w _ _ q2 s2 r2 A c
          simp [execOp, hv, hrun]
        · obtain ⟨ad, vs, rfl, hc⟩ := hcells h0
          refine .pure hM hE h ?_ (.d (.val _))
          have hcell : ∀ i, i < n → w.cell? (ad.add i) = some (.int .u8 (ns.getD i 0)) := by
            intro i hi
            obtain ⟨k1, k2⟩ := hc i 0 hi (by omega)
            rw [Nat.mul_one, Nat.add_zero] at k1
            rw [k1]
            have hil : i < l.length := by omega
            have k3 := k2 hil (by rw [hsz _ (List.getElem_mem hil)]; omega)
            have k4 := numsL_get hn i hil
            have k5 : ∀ (d : D) (hd : d = .val (.int .u8 (ns.getD i 0))) (h0 : 0 < d.cells.length), RelD w Pr d.cells[0] (vs i 0) → vs i 0 = .int .u8 (ns.getD i 0) := by
              rintro d rfl h0 hr
              have hr' : RelD w Pr (.val (.int .u8 (ns.getD i 0))) (vs i 0) := hr
              generalize vs i 0 = u at hr' ⊢
              cases hr'; rfl
            rw [k5 _ k4 _ k3]
          obtain ⟨b, off, spot⟩ := ad
          have hs : spot = none := by
            have := hcell 0 h0
            unfold World.cell? Addr.add at this
            simp only [if_true] at this
            split at this
            · split at this
              · cases this
              · rename_i hq; cases spot <;> simp_all
            · cases this
          subst hs
          have hrun := run_convert_bytes_arg w _ _ q2 s2 b off n c ns (by omega) (fun i hi => by
            rw [← hcell i hi]
            congr 1
            unfold Addr.add; split <;> simp_all) _ r2
          simp [execOp, hv, hrun]
          rfl
      · exact h.elim
    · exact h.elim
  · exact h.elim

end
end Go.PL

/- PlOpsB -/
namespace Go.PL
open Go

section
variable {P : Program} {T : Tab} [TOk T P] {nF : Nat} {w : World} {Pr : Pro} {p : Place} {st : St} {a : Act} {K : V → St → Prop}
variable {dst : Option Tmp} {type : TypeId} {pos : String} {after : Array Edge} {guard : Option (Nat × Bool)}

theorem idx_lt {i n j sz : Nat} (hi : i < n) (hj : j < sz) : i * sz + j < n * sz := by
  have := Nat.mul_le_mul_right sz (show i + 1 ≤ n by omega)
  rw [Nat.succ_mul] at this; omega

theorem preob_append {os : List Ob} {room sz : Nat} {es news : List D} {fz : Bool} {pre nl post : List Value}
    (h1 : pre.length = es.length * sz) (h2 : nl.length = news.length * sz) (h3 : (pre ++ nl ++ post).length = room * sz) (h4 : es.length + news.length ≤ room) (h5 : room ≤ maxLen)
    (h6 : ∀ i (_ : i < es.length), es[i].cells.length = sz) (h7 : ∀ i (_ : i < news.length), news[i].cells.length = sz)
    (h8 : ∀ i (_ : i < es.length) j (_ : j < es[i].cells.length), ∃ v, pre[i * sz + j]? = some v ∧ v.oneCell' = true ∧ RelD w Pr es[i].cells[j] v)
    (h9 : ∀ i (_ : i < news.length) j (_ : j < news[i].cells.length), ∃ v, nl[i * sz + j]? = some v ∧ v.oneCell' = true ∧ RelD w Pr news[i].cells[j] v) :
    PreOb w Pr p os room (pre ++ nl ++ post).toArray (.arr sz (es ++ news) fz) := by
  refine ⟨by simpa using h3, by simpa using h4, h5, fun i hi => ?_, fun i hi j hj => ?_⟩
  · rw [List.getElem_append]
    split
    · exact h6 _ _
    · exact h7 _ _
  · by_cases hlt : i < es.length
    · have e : (es ++ news)[i] = es[i] := List.getElem_append_left hlt
      have hj' : j < es[i].cells.length := by rw [← e]; exact hj
      obtain ⟨v, k1, k2, k3⟩ := h8 i hlt j hj'
      have hx : i * sz + j < pre.length := by rw [h1]; exact idx_lt hlt (by rw [← h6 i hlt]; exact hj')
      refine ⟨v, ?_, k2, ?_⟩
      · simp only [List.getElem?_toArray, List.append_assoc]
        rw [List.getElem?_append_left hx]; exact k1
      · have : (es ++ news)[i].cells[j] = es[i].cells[j] := by simp [e]
        rw [this]; exact k3
    · have hlt2 : i - es.length < news.length := by simp at hi; omega
      have e : (es ++ news)[i] = news[i - es.length] := List.getElem_append_right (by omega)
      have hj' : j < news[i - es.length].cells.length := by rw [← e]; exact hj
      obtain ⟨v, k1, k2, k3⟩ := h9 _ hlt2 j hj'
      have hx : (i - es.length) * sz + j < nl.length := by rw [h2]; exact idx_lt hlt2 (by rw [← h7 _ hlt2]; exact hj')
      have hge : es.length * sz ≤ i * sz := Nat.mul_le_mul_right _ (by omega)
      have hsub : (i - es.length) * sz = i * sz - es.length * sz := Nat.sub_mul _ _ _
      refine ⟨v, ?_, k2, ?_⟩
      · simp only [List.getElem?_toArray, List.append_assoc]
        rw [List.getElem?_append_right (by omega), List.getElem?_append_left (by omega)]
        rw [← k1]; congr 1; omega
      · have : (es ++ news)[i].cells[j] = news[i - es.length].cells[j] := by simp [e]
        rw [this]; exact k3

theorem arr_cells {os : List Ob} {o sz : Nat} {es : List D} {fz : Bool} {vs : Array Value} {et : TypeId} (_ : w.heap[p.bl o]? = some (.cells vs et (0, 0)))
    (h : PreOb w Pr p os (p.room o) vs (.arr sz es fz)) : (vs.toList.take (es.length * sz)).length = es.length * sz ∧
      ∀ i (_ : i < es.length) j (_ : j < es[i].cells.length), ∃ v, (vs.toList.take (es.length * sz))[i * sz + j]? = some v ∧ v.oneCell' = true ∧ RelD w Pr es[i].cells[j] v := by
  obtain ⟨h1, h2, h3, h4, h5⟩ := h
  refine ⟨by simp; rw [h1]; exact Nat.min_eq_left (Nat.mul_le_mul_right _ h2), fun i hi j hj => ?_⟩
  obtain ⟨v, k1, k2, k3⟩ := h5 i hi j hj
  exact ⟨v, by rw [List.getElem?_take, if_pos (idx_lt hi (by rw [← h4 i hi]; exact hj))]; simpa using k1, k2, k3⟩

theorem out_append_of (hM : Mem w Pr p st.os) (hE : EnvR w Pr p st.os a.tmps st.env) {o sz : Nat} {es es' : List D} {fz : Bool} {vs : Array Value} {et : TypeId} {r : Result Next} {len' : Nat}
    (ho : st.os[o]? = some (.arr sz es fz)) (hnF : nF ≤ o) (hv : w.heap[p.bl o]? = some (.cells vs et (0, 0))) {w' : World} {b room cap : Nat} {vs' : Array Value} {et' : TypeId}
    (hb : (b = p.bl o ∧ room = p.room o ∧ w'.heap.size = w.heap.size ∧ ∀ j, j < es.length * sz → vs'[j]? = vs[j]?) ∨ (b = w.heap.size ∧ w'.heap.size = w.heap.size + 1))
    (hw : w'.heap[b]? = some (.cells vs' et' (0, 0))) (hwo : ∀ k, k ≠ b → k < w.heap.size → w'.heap[k]? = w.heap[k]?)
    (h1 : w'.os = w.os) (h2 : w'.tape = w.tape) (h3 : w'.output = w.output)
    (hob : PreOb w Pr p st.os room vs' (.arr sz es' fz)) (hlen : es.length ≤ es'.length) {A : Option Addr} (hA : A = some ⟨b, 0, none⟩ ∨ cap = 0) (hn : len' = 0 ∨ A.isSome = true) (hl : len' = es'.length) (hc : len' ≤ cap) (hcr : cap ≤ room)
    (hr : r = .ok (.value (.slice A len' cap)) w') (hK : K (.msl o 0 len') { st.kill o with os := (st.kill o).os.set o (.arr sz es' fz) }) : Out nF w Pr p st a.tmps K r := by
  have hol : o < st.os.length := by
    rcases Nat.lt_or_ge o st.os.length with h | h
    · exact h
    · rw [List.getElem?_eq_none h] at ho; cases ho
  obtain ⟨m, hs, hcb⟩ := grown (nF := nF) hM ho hnF hv hb hw hwo h1 h2 h3 hob hlen
  refine ⟨_, _, _, w', _, _, hK, .inl hr, ⟨m, EnvR.kill hs hcb hE⟩, .msl (by simpa [St.kill] using hol) hc hn fun sz2 es2 fz2 ho2 => ?_⟩
  simp only [St.kill] at ho2
  rw [List.getElem?_set_self (by simpa using hol)] at ho2
  cases ho2
  refine ⟨?_, by omega, by simp [Place.at]; omega⟩
  rcases hA with h | h
  · left; rw [h]; simp [Place.at]
  · exact .inr h

theorem heap_drew_alloc (w : World) (o : Obj) : ((w.drew).alloc o).heap = w.heap.push o := rfl

theorem out_append (hM : Mem w Pr p st.os) (hE : EnvR w Pr p st.os a.tmps st.env) (hnF : nF ≤ st.os.length) {args : Array Operand} {ats : Array TypeId} (h : opK T nF st (.call { callee := .builtin .append, args, argTypes := ats }) K) :
    Out nF w Pr p st a.tmps K ((execOp a.eval ⟨dst, .call { callee := .builtin .append, args, argTypes := ats }, type, pos, after, guard⟩).run P w) := by
  simp only [opK] at h
  rw [resolve_builtin]
  split at h
  · rename_i t t' s x h1 h2
    obtain rfl : ats = #[t, t'] := by rw [← Array.toArray_toList (xs := ats), h1]
    obtain rfl : args = #[s, x] := by rw [← Array.toArray_toList (xs := args), h2]
    split at h
    · rename_i e news ht hel
      obtain ⟨n1, u1, _, q2, q3⟩ := tk_spec ht (by simp)
      rw [TK.of_sl q3] at q2
      split at h
      · rename_i i hti
        obtain ⟨ni, u, z, k, i1, i2, i3, i4, rfl, i6, i7, i8⟩ := ti_spec hti
        obtain ⟨rfl, h⟩ := h
        unfold appendK at h
        obtain ⟨hnews, hpos, h⟩ := h
        simp only at hnews hpos
        have hn1 : ∀ e ∈ news, e.cells.length = ni.size := fun e he => (hnews e he).1
        have hn2 : ∀ i (_ : i < news.length), news[i].cells.length = ni.size := fun i hi => hn1 _ (List.getElem_mem hi)
        obtain ⟨A, n, c, hxv, hnl, hsrc⟩ := src_rel hM hel (evalR hE x) hn1
        have hs := evalR hE s
        have hbr : ∀ v w', (Builtin.append_ #[t', t'] type #[a.eval s, a.eval x]).run P w = .ok v w' → (builtin .append #[t', t'] type (#[s, x].map fun | .const _ => true | _ => false) (#[s, x].map a.eval)).run P w = .ok (.value v) w' := by
          intro v w' hh
          simp [builtin, hh]
        -- what is appended, if anything
        have hlist : 0 < n → ∃ (ad : Addr) (nl : List Value), A = some ad ∧ nl.length = n * ni.size ∧ (∀ j u, nl[j]? = some u → w.cell? (ad.add j) = some u) ∧ (∀ u ∈ nl, u.oneCell' = true) ∧
            ∀ i (_ : i < news.length) j (_ : j < news[i].cells.length), ∃ v, nl[i * ni.size + j]? = some v ∧ v.oneCell' = true ∧ RelD w Pr news[i].cells[j] v := by
          intro h0
          obtain ⟨ad, vs, hA, hcell⟩ := hsrc h0
          obtain ⟨nl, l1, l2, l3⟩ := src_list (w := w) (n := n) (sz := ni.size) (vs := vs) (ad := ad) (fun i j hi hj => (hcell i j hi hj).1)
          have hone : ∀ i (hi : i < news.length) j (hj : j < news[i].cells.length), (vs i j).oneCell' = true ∧ RelD w Pr news[i].cells[j] (vs i j) := by
            intro i hi j hj
            have hr := (hcell i j (by omega) (by rw [← hn2 i hi]; exact hj)).2 hi hj
            exact ⟨hr.one ((hnews _ (List.getElem_mem hi)).2 _ (List.getElem_mem hj)), hr⟩
          refine ⟨ad, nl, hA, l1, l2, fun u hu => ?_, fun i hi j hj => ?_⟩
          · obtain ⟨k, hk, rfl⟩ := List.getElem_of_mem hu
            have hk' : k < n * ni.size := by omega
            have hi : k / ni.size < n := by rw [Nat.div_lt_iff_lt_mul hpos]; exact hk'
            have hj := Nat.mod_lt k hpos
            have := l3 _ _ hi hj
            rw [Nat.div_add_mod'] at this
            rw [List.getElem?_eq_getElem hk] at this
            rw [Option.some.inj this]
            exact (hone _ (by omega) _ (by rw [hn2 _ (by omega)]; exact hj)).1
          · exact ⟨vs i j, l3 i j (by omega) (by rw [← hn2 i hi]; exact hj), hone i hi j hj⟩
        split at h
        · rename_i o len ee
          split at h
          · rename_i sz es fz ho
            obtain ⟨g1, hsz0, rfl, g2, g3, hK⟩ := h
            simp only at hsz0
            subst hsz0
            simp only [most, appendK.lim] at g2 g3
            rw [ee] at hs
            generalize hsv : a.eval s = sv at hs
            cases hs with
            | @msl _ _ _ A0 cap hol hc hn hh =>
              obtain ⟨a1, a2, a3⟩ := hh _ _ _ ho
              simp only [Nat.zero_mul, Nat.zero_add] at a1 a3
              obtain ⟨vs, et, hv, hpre, _⟩ := (hM.ob o _ ho).pre (by simp)
              have hpre0 := hpre
              obtain ⟨b1, b2, b3, b4, b5⟩ := hpre
              obtain ⟨t1, t2⟩ := arr_cells hv hpre0
              by_cases h0 : n = 0
              · have hne : news = [] := List.eq_nil_of_length_eq_zero (by omega)
                subst hne
                subst h0
                have hrun := append_none_run (w := w) (ty := type) q2 i1 (base := A0) (A := A) (c := c) hc
                simp only [List.append_nil, List.length_nil, Nat.add_zero] at hK
                exact out_append_of hM hE ho g1 hv (.inl ⟨rfl, rfl, rfl, fun _ _ => rfl⟩) hv (fun _ _ _ => rfl) rfl rfl rfl hpre0 (Nat.le_refl _) a1 hn rfl hc a3
                  (hbr _ _ (by rw [hsv, hxv]; exact hrun)) hK
              · obtain ⟨ad, nl, rfl, l1, l2, l3, l4⟩ := hlist (by omega)
                rw [← hnl] at g2 g3
                by_cases hroom : es.length + n ≤ cap
                · have hA0 : A0 = some ⟨p.bl o, 0, none⟩ := by rcases a1 with h | h; exact h; omega
                  subst hA0
                  have hst := run_storeCells_at P (p.bl o) (es.length * ni.size) et nl 0 vs w hv (by
                    rw [Nat.add_zero, l1, b1, ← Nat.add_mul]; exact Nat.mul_le_mul_right _ (by omega)) l3
                  simp only [Nat.add_zero] at hst
                  have hf := run_firstCells_some (P := P) w ni.size n ad n c nl l1 l2
                  have hrun : (Builtin.append_ #[t', t'] type #[.slice (some ⟨p.bl o, 0, none⟩) es.length cap, .slice (some ad) n c]).run P w =
                      .ok (.slice (some ⟨p.bl o, 0, none⟩) (es.length + n) cap) (w.setRow (p.bl o) (vs.toList.take (es.length * ni.size) ++ nl ++ vs.toList.drop (es.length * ni.size + nl.length)).toArray) := by
                    simp [Builtin.append_, run_underlying q2, sizeOf, typeInfo, i1, Builtin.lenOf, hroom, hf, Addr.add_lit, hst]
                  have htot : (vs.toList.take (es.length * ni.size) ++ nl ++ vs.toList.drop (es.length * ni.size + nl.length)).length = p.room o * ni.size := by
                    have : es.length * ni.size + nl.length ≤ vs.size := by rw [l1, b1, ← Nat.add_mul]; exact Nat.mul_le_mul_right _ (by omega)
                    simp only [List.length_append, t1, List.length_drop, Array.length_toList]; omega
                  exact out_append_of hM hE ho g1 hv (w' := w.setRow (p.bl o) (vs.toList.take (es.length * ni.size) ++ nl ++ vs.toList.drop (es.length * ni.size + nl.length)).toArray) (.inl ⟨rfl, rfl, by simp, fun j hj => by
                      simp only [List.getElem?_toArray, List.append_assoc]
                      rw [List.getElem?_append_left (by rw [t1]; exact hj), List.getElem?_take, if_pos hj]; simp⟩)
                    (setRow_heap w _ vs _ et _ hv) (fun k hk _ => setRow_other w _ k _ hk) rfl rfl rfl
                    (preob_append t1 (by rw [l1, hnl]) htot (by omega) b3 b4 hn2 t2 l4) (by simp) (.inl rfl) (.inr rfl) (by simp [hnl]) (by omega) a3
                    (hbr _ _ (by rw [hsv, hxv, ← hnl]; exact hrun)) hK
                · have hbytes : (es.length + n) * ni.bytes ≤ 140737488355328 := g2
                  have h63 : es.length + n ≤ maxLen := by simp only [maxLen]; omega
                  have hcm := grownCap_le_maxLen w (es.length + n) cap e h63
                  have hge := grownCap_ge w (es.length + n) cap e
                  have holds : ∀ (bA : Addr), (bA = ⟨p.bl o, 0, none⟩ ∨ cap = 0) → ∀ j v, (vs.toList.take (es.length * ni.size))[j]? = some v → w.cell? (bA.add j) = some v := by
                    intro bA hbA j v hj
                    rw [List.getElem?_take] at hj
                    split at hj
                    · rename_i hlt
                      rcases hbA with rfl | hcap
                      · rw [Addr.add_none, Nat.zero_add]
                        simp only [World.cell?, hv]
                        simpa using hj
                      · have : es.length = 0 := by omega
                        rw [this] at hlt; simp at hlt
                    · cases hj
                  have hz : (Builtin.zeroCells z.cells (grownCap w (es.length + n) cap e - (es.length + n))).toList.length = (grownCap w (es.length + n) cap e - (es.length + n)) * ni.size := by
                    simp [size_zeroCells, i6]
                  have hfin : ∀ {ww : World} {cells : Array Value}, ww = w.drew.alloc (.cells cells e) → cells = (vs.toList.take (es.length * ni.size) ++ nl ++ (Builtin.zeroCells z.cells (grownCap w (es.length + n) cap e - (es.length + n))).toList).toArray →
                      (Builtin.append_ #[t', t'] type #[.slice A0 es.length cap, .slice (some ad) n c]).run P w = .ok (.slice (some ⟨w.heap.size, 0, none⟩) (es.length + n) (grownCap w (es.length + n) cap e)) ww →
                      Out nF w Pr p st a.tmps K ((builtin .append #[t', t'] type (#[s, x].map fun | .const _ => true | _ => false) (#[s, x].map a.eval)).run P w) := by
                    intro ww cells e1 e2 hrun
                    subst e1; subst e2
                    refine out_append_of hM hE ho g1 hv (w' := w.drew.alloc (.cells _ e)) (b := w.heap.size) (room := grownCap w (es.length + n) cap e) (.inr ⟨rfl, by show (w.heap.push _).size = _; simp⟩) (heap_alloc_new w.drew _) (fun k _ hk => heap_alloc_old w.drew _ k hk) rfl rfl rfl
                      (preob_append t1 (by rw [l1, hnl]) ?_ (by omega) hcm b4 hn2 t2 l4) (by simp) (.inl rfl) (.inr rfl) (by simp [hnl]) (by omega) (Nat.le_refl _)
                      (hbr _ _ (by rw [hsv, hxv, ← hnl]; exact hrun)) hK
                    simp only [List.length_append, t1, l1, hz, ← Nat.add_mul]
                    congr 1; omega
                  cases A0 with
                  | some bA =>
                    have hrun := run_append_grow (P := P) w t' type e ni z q2 i1 i3 bA es.length cap (vs.toList.take (es.length * ni.size)) t1
                      (holds bA (by rcases a1 with h | h; exact .inl (Option.some.inj h); exact .inr h)) ad n c nl l1 l2 (by omega) (by omega) (growslice_fits (by omega) hbytes)
                    exact hfin rfl (by simp) hrun
                  | none =>
                    have hc0 : cap = 0 := by rcases a1 with h | h; cases h; exact h
                    have hes : es.length = 0 := by omega
                    subst hc0
                    have hes' : es = [] := List.eq_nil_of_length_eq_zero hes
                    subst hes'
                    have hrun := run_append_nil (P := P) w t' type e ni z q2 i1 i3 ad n c nl l1 l2 (by omega) (by omega) (by simp at hbytes; omega)
                    refine hfin rfl ?_ (by simpa using hrun)
                    simp
          · exact h.elim
        · rename_i ee
          obtain ⟨hK0, hK1⟩ := h
          rw [ee] at hs
          by_cases h0 : n = 0
          · have hne : news = [] := List.eq_nil_of_length_eq_zero (by omega)
            subst h0
            have hrun := append_none_run (w := w) (ty := type) q2 i1 (base := none) (A := A) (c := c) (Nat.le_refl 0)
            exact .pure hM hE (hK0 hne) (hbr _ _ (by rw [hs.val, hxv]; exact hrun)) (.d (.val _))
          · have hne : news ≠ [] := by rintro rfl; simp at hnl; exact h0 hnl
            obtain ⟨g2, g3, hK⟩ := hK1 hne
            simp only [most, appendK.lim] at g2 g3
            obtain ⟨ad, nl, rfl, l1, l2, l3, l4⟩ := hlist (by omega)
            rw [← hnl] at g2 g3
            have hcm := grownCap_le_maxLen w n 0 e (by simp only [maxLen]; omega)
            have hge := grownCap_ge w n 0 e
            have hrun := run_append_nil (P := P) w t' type e ni z q2 i1 i3 ad n c nl l1 l2 (by omega) (by omega) (by omega)
            have hz : (Builtin.zeroCells z.cells (grownCap w n 0 e - n)).toList.length = (grownCap w n 0 e - n) * ni.size := by simp [size_zeroCells, i6]
            have hcells : nl.toArray ++ Builtin.zeroCells z.cells (grownCap w n 0 e - n) = (([] : List Value) ++ nl ++ (Builtin.zeroCells z.cells (grownCap w n 0 e - n)).toList).toArray := by simp
            rw [hcells] at hrun
            refine out_push (w' := w.drew.alloc (.cells _ e)) (et := e) (room := grownCap w n 0 e) (ob := .arr ni.size ([] ++ news) false) (u := .slice (some ⟨w.heap.size, 0, none⟩) n (grownCap w n 0 e))
              hM hE hnF (heap_drew_alloc _ _) rfl rfl rfl
              (preob_append (pre := []) (by simp) (by rw [l1, hnl]) ?_ (by simp; omega) hcm (by simp) hn2 (by simp) l4) rfl (hbr _ _ (by rw [hs.val, hxv]; exact hrun)) ?_ (by simpa [hnl] using hK)
            · simp only [List.nil_append, List.length_append, l1, hz, ← Nat.add_mul]
              congr 1; omega
            · rw [← hnl]
              refine .msl (by simp) hge (.inr rfl) fun sz2 es2 fz2 ho => ?_
              simp at ho
              obtain ⟨rfl, rfl, rfl⟩ := ho
              simp [Place.at, hnl]
        · exact h.elim
      · exact h.elim
    · exact h.elim
  · exact h.elim

end
end Go.PL

/- PlSound -/
namespace Go.PL
open Go

/-- The marks of ranges over functions that are over: their blocks hold no call. -/
def Marks (b : Nat) (w : World) : List Deferred → Prop
  | [] => True
  | d :: r => (∃ D, d = { target := .collected D, args := #[] } ∧ b ≤ D ∧ w.heap[D]? = some (.deferred (some [])) ∧ ∀ e ∈ r, e ≠ { target := .collected D, args := #[] }) ∧ Marks b w r

theorem Marks.keep {b : Nat} {w w' : World} (h : ∀ D, b ≤ D → w.heap[D]? = some (.deferred (some [])) → w'.heap[D]? = some (.deferred (some []))) : ∀ {l : List Deferred}, Marks b w l → Marks b w' l
  | [], _ => trivial
  | _ :: r, ⟨⟨D, h1, h2, h3, h4⟩, h5⟩ => ⟨⟨D, h1, h2, h D h2 h3, h4⟩, Marks.keep h h5⟩

theorem Marks.step {b nF : Nat} {w w' : World} {Pr Pr' : Pro} {p p' : Place} {os os' : List Ob} (hM : Mem w Pr p os) (hs : Step w w' Pr Pr' p p' os os' nF) {l : List Deferred} (h : Marks b w l) : Marks b w' l := by
  refine h.keep fun D _ hD => ?_
  rw [hs.frm.block D (Array.getElem?_eq_some_iff.1 hD).1]
  · exact hD
  · rintro ⟨o, ob, h1, h2, rfl⟩
    have h3 := hM.ob o ob h1
    cases ob with
    | var cs fz => obtain ⟨vs, et, k1, _⟩ := h3; rw [hD] at k1; cases k1
    | arr sz es fz => obtain ⟨vs, et, k1, _⟩ := h3; rw [hD] at k1; cases k1
    | dead => exact h2 rfl

/-- What is known of an activation: memory, its frame. -/
structure Rel (g : Ghost) (st : St) (a : Act) (w : World) : Prop where
  ex : ∃ Pr p, Inv g w Pr p st.os ∧ EnvR w Pr p st.os a.tmps st.env
  defers : Marks g.w0.heap.size w a.defers

section
variable {P : Program} {T : Tab} [TOk T P]

theorem opK_sound {nF : Nat} {w : World} {Pr : Pro} {p : Place} {st : St} {a : Act} {K : V → St → Prop} (hM : Mem w Pr p st.os) (hE : EnvR w Pr p st.os a.tmps st.env) (hD : ∀ x ∈ T.gs, RelD w Pr (.ptr x.2) (.pointer (some ⟨x.1, 0, none⟩))) (hnF : nF ≤ st.os.length)
    (o : Oper) (h : opK T nF st o.op K) : Out nF w Pr p st a.tmps K ((execOp a.eval o).run P w) := by
  obtain ⟨dst, op, type, pos, after, guard⟩ := o
  simp only at h
  cases op with
  | move x => exact out_move hM hE (by simpa only [opK] using h)
  | assign x => exact out_assign hM hE (by simpa only [opK] using h)
  | pick c x y => exact out_pick hM hE h
  | alloc t => exact out_alloc hM hE hnF h
  | box t x => exact out_box hM hE hnF h
  | build t parts => exact out_build hM hE h
  | buildSlice t len parts => exact out_buildSlice hM hE hnF h
  | load t x => exact out_load hM hE hD h
  | store t x y => exact out_store hM hE hnF h
  | nilCheck x => exact out_nilCheck hM hE h
  | binOp op t x y yt => exact out_binOp hM hE h
  | unOp op t x => exact out_unOp hM hE h
  | convert s t x => exact out_convert hM hE h
  | makeFunc f x y => exact out_makeFunc hM hE h
  | makeSlice t l c => exact out_makeSlice hM hE hnF h
  | slice t x lo hi mx => exact out_slice hM hE h
  | fieldAddr s x f => exact out_fieldAddr hM hE h
  | field s x f => exact out_field hM hE h
  | indexAddr t x ix => exact out_indexAddr hM hE h
  | index t x ix => exact out_index hM hE h
  | extract x i => exact out_extract hM hE h
  | call c =>
    obtain ⟨callee, args, ats⟩ := c
    cases callee with
    | builtin b =>
      cases b <;> first
        | exact out_len hM hE h
        | exact out_append hM hE hnF h
        | exact out_max hM hE h
        | exact out_min hM hE h
        | (simp only [opK] at h)
    | value f => simp only [opK] at h
    | invoke r m => simp only [opK] at h
  | _ => simp only [opK] at h

/-- Less known is still known. -/
theorem sub_look {env : List (Nat × V)} : ∀ {env' : List (Nat × V)}, sub env env' → ∀ t, look env' t = look env t ∨ look env' t = .any
  | [], _, t => .inr rfl
  | (k, v) :: r, h, t => by
    obtain ⟨h1, h2⟩ := h
    simp only [look]
    cases hb : Nat.beq k t with
    | true => rw [cond_true]; left; rw [← Nat.eq_of_beq_eq_true hb, h1]
    | false => rw [cond_false]; exact sub_look h2 t

theorem look_mem {env : List (Nat × V)} (t : Nat) : look env t = .any ∨ ∃ x ∈ env, x.2 = look env t := by
  induction env with
  | nil => exact .inl rfl
  | cons x r ih =>
    obtain ⟨k, v⟩ := x
    simp only [look]
    cases Nat.beq k t with
    | true => exact .inr ⟨(k, v), by simp, rfl⟩
    | false =>
      rcases ih with h | ⟨x, h1, h2⟩
      · exact .inl h
      · exact .inr ⟨x, by simp [h1], h2⟩

section
variable {w : World} {Pr : Pro} {p : Place} {os tl : List Ob}

theorem RelV.drop1 {x : V} {v : Value} (h : RelV w Pr p (os ++ tl) x v) (hb : x.bnd1 os.length = true) : RelV w Pr p os x v := by
  cases h with
  | d h => exact .d h
  | @ref o i j a ho h =>
    have hlt : o < os.length := by simpa [V.bnd1, Nat.blt_eq] using hb
    exact .ref hlt fun ob h1 h2 => h ob (by rw [List.getElem?_append_left hlt]; exact h1) h2
  | @msl o off len A cap ho hl hn h =>
    have hlt : o < os.length := by simpa [V.bnd1, Nat.blt_eq] using hb
    exact .msl hlt hl hn fun sz es fz h1 => h sz es fz (by rw [List.getElem?_append_left hlt]; exact h1)
  | any => exact .any
  | _ => simp [V.bnd1] at hb

theorem RelV.drop {x : V} {v : Value} (h : RelV w Pr p (os ++ tl) x v) (hb : x.bnd os.length = true) : RelV w Pr p os x v := by
  cases x with
  | agg cs =>
    cases h with
    | agg hz hr =>
      simp only [V.bnd, List.all_eq_true] at hb
      exact .agg hz fun i hi => (hr i hi).drop1 (hb _ (List.getElem_mem hi))
  | fn f x1 x2 =>
    cases h with
    | fn h1 h2 h3 h4 =>
      simp only [V.bnd, Bool.and_eq_true, List.all_eq_true] at hb
      exact .fn h1 h2 (fun i hi => (h3 i hi).drop1 (hb.1 _ (List.getElem_mem hi))) (fun i hi => (h4 i hi).drop1 (hb.2 _ (List.getElem_mem hi)))
  | _ => exact h.drop1 hb

theorem Mem.drop (hM : Mem w Pr p (os ++ tl)) (hb : os.all (Ob.bnd os.length) = true) : Mem w Pr p os := by
  have get : ∀ {o : Nat} {ob : Ob}, os[o]? = some ob → (os ++ tl)[o]? = some ob ∧ ob ∈ os := by
    intro o ob h
    have hlt : o < os.length := by
      rcases Nat.lt_or_ge o os.length with h1 | h1
      · exact h1
      · rw [List.getElem?_eq_none h1] at h; cases h
    exact ⟨by rw [List.getElem?_append_left hlt]; exact h, List.mem_of_getElem? h⟩
  refine ⟨hM.prIn, fun o ob h hd => hM.blk o ob (get h).1 hd, fun o o' a b h1 h2 => hM.inj o o' a b (get h1).1 (get h2).1, fun o ob h => ?_⟩
  have h1 := hM.ob o ob (get h).1
  have h2 := List.all_eq_true.1 hb ob (get h).2
  cases ob with
  | var cs fz =>
    obtain ⟨vs, et, g1, g2, g3, g4⟩ := h1
    refine ⟨vs, et, g1, g2, fun j hj => ?_, g4⟩
    obtain ⟨v, k1, k2, k3⟩ := g3 j hj
    simp only [Ob.bnd, List.all_eq_true] at h2
    exact ⟨v, k1, k2, k3.drop (h2 _ (List.getElem_mem hj))⟩
  | arr sz es fz => exact h1
  | dead => trivial

end

theorem Inv.drop {g : Ghost} {w : World} {Pr : Pro} {p : Place} {os tl : List Ob} (h : Inv g w Pr p (os ++ tl)) (hb : os.all (Ob.bnd os.length) = true) (hl : g.os0.length ≤ os.length) : Inv g w Pr p os := by
  have get : ∀ {o : Nat} {ob : Ob}, os[o]? = some ob → (os ++ tl)[o]? = some ob := by
    intro o ob h
    have hlt : o < os.length := by
      rcases Nat.lt_or_ge o os.length with h1 | h1
      · exact h1
      · rw [List.getElem?_eq_none h1] at h; cases h
    rw [List.getElem?_append_left hlt]; exact h
  exact ⟨h.mem.drop hb, h.frm, h.stab, h.prN, ⟨hl, fun o ob' ho h1 h2 => h.cmp.live o ob' ho (get h1) h2, fun o sz es fz ho h1 => h.cmp.arr o sz es fz ho (get h1)⟩, fun o ob h1 h2 h3 => h.own o ob (get h1) h2 h3⟩

/-- The objects under other numbers. -/
def Place.ren (p : Place) (f : Nat → Nat) : Place := ⟨fun o => p.bl (f o), fun o => p.room (f o)⟩

theorem Ob.ren_sz (f : Nat → Nat) (ob : Ob) : (ob.ren f).sz = ob.sz := by cases ob <;> simp [Ob.ren, Ob.sz]
theorem Ob.ren_dead {f : Nat → Nat} {ob : Ob} : ob.ren f = .dead ↔ ob = .dead := by cases ob <;> simp [Ob.ren]

section
variable {w : World} {Pr : Pro} {p : Place} {os os' : List Ob} {f : Nat → Nat}

structure Ren (f : Nat → Nat) (os os' : List Ob) : Prop where
  inv : ∀ o, f (f o) = o
  len : os'.length = os.length
  bnd : ∀ o, o < os.length → f o < os.length
  ob : ∀ o, o < os.length → os'[o]? = (os[f o]?).map (Ob.ren f)

theorem Ren.back (h : Ren f os os') {o : Nat} {ob' : Ob} (ho : os'[o]? = some ob') : ∃ ob, os[f o]? = some ob ∧ ob' = ob.ren f := by
  have hlt : o < os.length := by
    rcases Nat.lt_or_ge o os.length with q | q
    · exact q
    · rw [List.getElem?_eq_none (by rw [h.len]; exact q)] at ho; cases ho
  rw [h.ob o hlt] at ho
  cases hx : os[f o]? with
  | none => rw [hx] at ho; cases ho
  | some ob => rw [hx] at ho; exact ⟨ob, rfl, (Option.some.inj ho).symm⟩

theorem RelV.ren1 (h : Ren f os os') {x : V} {v : Value} (hr : RelV w Pr p os x v) : RelV w Pr (p.ren f) os' (x.ren1 f) v := by
  cases hr with
  | d h => exact .d h
  | @ref o i j a ho hh =>
    refine .ref (by rw [h.len]; exact h.bnd o ho) fun ob' h1 h2 => ?_
    obtain ⟨ob, k1, rfl⟩ := h.back h1
    rw [h.inv] at k1
    rw [hh ob k1 (fun e => h2 (Ob.ren_dead.2 e)), Ob.ren_sz]
    simp [Place.ren, h.inv]
  | @msl o off len A cap ho hc hn hh =>
    refine .msl (by rw [h.len]; exact h.bnd o ho) hc hn fun sz es fz h1 => ?_
    obtain ⟨ob, k1, k2⟩ := h.back h1
    rw [h.inv] at k1
    cases ob <;> simp only [Ob.ren, reduceCtorEq, Ob.arr.injEq] at k2
    obtain ⟨rfl, rfl, rfl⟩ := k2
    have := hh _ _ _ k1
    simpa [Place.ren, h.inv] using this
  | _ => exact .any

theorem RelV.ren (h : Ren f os os') {x : V} {v : Value} (hr : RelV w Pr p os x v) : RelV w Pr (p.ren f) os' (x.ren f) v := by
  cases x with
  | agg cs =>
    cases hr with
    | agg hz hr => exact .agg (by simpa using hz) fun i hi => by rw [List.getElem_map]; exact (hr i (by simpa using hi)).ren1 h
  | fn g x1 x2 =>
    cases hr with
    | fn h1 h2 h3 h4 => exact .fn (by simpa using h1) (by simpa using h2) (fun i hi => by rw [List.getElem_map]; exact (h3 i (by simpa using hi)).ren1 h) (fun i hi => by rw [List.getElem_map]; exact (h4 i (by simpa using hi)).ren1 h)
  | _ => exact hr.ren1 h

theorem Mem.ren (h : Ren f os os') (hM : Mem w Pr p os) : Mem w Pr (p.ren f) os' := by
  refine ⟨hM.prIn, fun o ob h1 hd => ?_, fun o o' a b h1 h2 hd1 hd2 e => ?_, fun o ob h1 => ?_⟩
  · obtain ⟨ob0, k1, rfl⟩ := h.back h1
    exact hM.blk _ ob0 k1 fun e => hd (Ob.ren_dead.2 e)
  · obtain ⟨a0, k1, rfl⟩ := h.back h1
    obtain ⟨b0, k2, rfl⟩ := h.back h2
    have := hM.inj _ _ a0 b0 k1 k2 (fun e => hd1 (Ob.ren_dead.2 e)) (fun e => hd2 (Ob.ren_dead.2 e)) e
    rw [← h.inv o, this, h.inv]
  · obtain ⟨ob0, k1, rfl⟩ := h.back h1
    have h3 := hM.ob _ ob0 k1
    cases ob0 with
    | var cs fz =>
      obtain ⟨vs, et, g1, g2, g3, g4⟩ := h3
      refine ⟨vs, et, g1, by simpa using g2, fun j hj => ?_, fun j => by rw [List.length_map]; exact g4 j⟩
      obtain ⟨v, q1, q2, q3⟩ := g3 j (by simpa using hj)
      exact ⟨v, q1, q2, by rw [List.getElem_map]; exact q3.ren h⟩
    | arr sz es fz => exact h3
    | dead => trivial

theorem Inv.ren {g : Ghost} (h : Ren f os os') (hn : ∀ o, o < g.os0.length → f o = o) (hI : Inv g w Pr p os) : Inv g w Pr (p.ren f) os' := by
  refine ⟨hI.mem.ren h, hI.frm, hI.stab, hI.prN, ⟨by rw [h.len]; exact hI.cmp.len, fun o ob' ho h1 h2 => ?_, fun o sz es fz ho h1 => ?_⟩, fun o ob h1 h2 h3 => ?_⟩
  · obtain ⟨ob, k1, rfl⟩ := h.back h1
    rw [hn o ho] at k1
    obtain ⟨ob0, q1, q2, q3, q4, q5⟩ := hI.cmp.live o ob ho k1 (fun e => h2 (Ob.ren_dead.2 e))
    exact ⟨ob0, q1, q2, by simp only [Place.ren, hn o ho]; exact q3, by simp only [Place.ren, hn o ho]; exact q4, by rw [Ob.ren_sz]; exact q5⟩
  · obtain ⟨ob, k1, k2⟩ := h.back h1
    rw [hn o ho] at k1
    cases ob <;> simp only [Ob.ren, reduceCtorEq, Ob.arr.injEq] at k2
    obtain ⟨rfl, rfl, rfl⟩ := k2
    exact hI.cmp.arr o _ _ _ ho k1
  · obtain ⟨ob0, k1, rfl⟩ := h.back h1
    refine hI.own _ ob0 k1 ?_ fun e => h3 (Ob.ren_dead.2 e)
    rcases Nat.lt_or_ge (f o) g.os0.length with q | q
    · exfalso
      have e := hn _ q
      rw [h.inv] at e
      omega
    · exact q

end

theorem look_map0 {f : V → V} (hf : f .any = .any) (t : Nat) : ∀ env : List (Nat × V), look (env.map fun x => (x.1, f x.2)) t = f (look env t)
  | [] => hf.symm
  | (k, v) :: r => by
    simp only [List.map_cons, look]
    cases Nat.beq k t with
    | true => rfl
    | false => exact look_map0 hf t r

theorem Weak.rel {g : Ghost} {a : Act} {w : World} {nF : Nat} (hg : g.os0.length = nF) {s s' : St} (h : Weak nF s s') : Rel g s a w → Rel g s' a w := by
  subst hg
  induction h with
  | env he ho =>
    rintro ⟨⟨Pr, p, h1, h2⟩, h3⟩
    refine ⟨⟨Pr, p, by rw [ho]; exact h1, fun t => ?_⟩, h3⟩
    rw [ho]
    rcases sub_look he t with h | h
    · rw [h]; exact h2 t
    · rw [h]; exact .any
  | @drop s s' tl hl he ho hb1 hb2 =>
    rintro ⟨⟨Pr, p, h1, h2⟩, h3⟩
    rw [ho] at h1 h2
    refine ⟨⟨Pr, p, h1.drop hb2 hl, fun t => ?_⟩, h3⟩
    rcases sub_look he t with h | h
    · rcases look_mem (env := s'.env) t with h4 | ⟨x, h4, h5⟩
      · rw [h4]; exact .any
      · have := List.all_eq_true.1 hb1 x h4
        have h6 := h2 t
        rw [← h] at h6
        exact h6.drop (by rw [← h5]; exact this)
    · rw [h]; exact .any
  | @fz s l =>
    rintro ⟨⟨Pr, p, h1, h2⟩, h3⟩
    have hl : g.os0.length ≤ s.os.length := h1.cmp.len
    obtain ⟨Pr', m, s1, c1, _⟩ := frozenM (nF := g.os0.length) hl l h1.mem
    exact ⟨⟨Pr', p, h1.step m.step m.mem, EnvR.moved s1 c1 h2⟩, h3⟩
  | @thaw s o t off len sz es ho ht =>
    rintro ⟨⟨Pr, p, h1, h2⟩, h3⟩
    refine ⟨⟨Pr, p, h1, fun k => ?_⟩, h3⟩
    simp only [look]
    cases hb : Nat.beq t k with
    | false => exact h2 k
    | true =>
      rw [cond_true]
      have h4 := h2 t
      rw [ht] at h4
      rw [← Nat.eq_of_beq_eq_true hb]
      obtain ⟨_, _, _, _, _, _, _, _, g⟩ := h1.mem.ob o _ ho
      generalize a.tmps.getD t undef = v at h4
      have h5 := h4
      cases h4 with
      | msl => exact .d (RelD.of_arr h1.mem (.refl _ _) ho (fun j hj => (g j).2 ⟨rfl, hj⟩) h5)
  | @trans a' b c h1 h2 ih1 ih2 => exact fun hr => ih2 (ih1 hr)
  | @ren s os' f hf hn hl hb ho =>
    rintro ⟨⟨Pr, p, h1, h2⟩, h3⟩
    have h : Ren f s.os os' := ⟨hf, hl, hb, ho⟩
    refine ⟨⟨Pr, p.ren f, h1.ren h hn, fun t => ?_⟩, h3⟩
    simp only
    rw [look_map0 rfl]
    exact (h2 t).ren h
  | @le s s' he hl ho =>
    rintro ⟨⟨Pr, p, h1, h2⟩, h3⟩
    have hc := ObLe.cmp (p := p) hl ho
    refine ⟨⟨Pr, p, ⟨ObLe.mem hl ho h1.mem, h1.frm, h1.stab, h1.prN, h1.cmp.trans hc, fun o ob' g1 g2 g3 => ?_⟩, fun t => (he t).rel ((h2 t).cmp (.refl _ _) hc)⟩, h3⟩
    have hlt : o < s'.os.length := by
      rcases Nat.lt_or_ge o s'.os.length with q | q
      · exact q
      · rw [List.getElem?_eq_none q] at g1; cases g1
    have e : s'.os[o] = ob' := by rw [List.getElem?_eq_getElem hlt] at g1; exact Option.some.inj g1
    have h4 := ho o (by omega)
    rw [e] at h4
    exact h1.own o _ (List.getElem?_eq_getElem (by omega)) g2 fun e => g3 (h4.fz.1.1 e)

end
end Go.PL
