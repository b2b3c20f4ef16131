/- A plain machine, sound for the given model, and contracts of functions over it, part 2: PlOps9. Nothing is assumed. -/
import Derived.Test.YticeamhfobihpaaDoorG01
set_option linter.unusedSimpArgs false
set_option linter.unusedVariables false
set_option linter.unusedSectionVars false
/- PlOps9 -/
namespace Go.PL
open Go

/-- As 'Cmp', but for one object. -/
structure CmpBut (k : Nat) (p p' : Place) (os os' : List Ob) : Prop where
  len : os.length ≤ os'.length
  live : ∀ o ob', o ≠ k → o < os.length → os'[o]? = some ob' → ob' ≠ .dead → ∃ ob, os[o]? = some ob ∧ ob ≠ .dead ∧ p'.bl o = p.bl o ∧ p'.room o = p.room o ∧ ob'.sz = ob.sz
  arr : ∀ o sz es' fz', o ≠ k → o < os.length → os'[o]? = some (.arr sz es' fz') → ∃ es fz, os[o]? = some (.arr sz es fz) ∧ es.length ≤ es'.length

section
variable {w w' : World} {Pr Pr' : Pro} {p p' : Place} {os os' : List Ob} {k : Nat}

theorem RelV.kill1 (hs : Stab w w' Pr Pr') (hc : CmpBut k p p' os os') {x : V} {v : Value} (h : RelV w Pr p os x v) : RelV w' Pr' p' os' (PL.kill1 k x) v := by
  cases h with
  | d h => exact .d (h.mono hs)
  | @ref o i j a ho h =>
    simp only [PL.kill1]
    by_cases e : o = k
    · subst e; simp; exact .any
    · have : Nat.beq o k = false := by cases hb : Nat.beq o k with | false => rfl | true => exact absurd (Nat.eq_of_beq_eq_true hb) e
      rw [this, cond_false]
      refine .ref (Nat.lt_of_lt_of_le ho hc.len) fun ob' h1 h2 => ?_
      obtain ⟨ob, h3, h4, h5, _, h7⟩ := hc.live o ob' e ho h1 h2
      rw [h ob h3 h4, h5, h7]
  | @msl o off len A cap ho hl hn h =>
    simp only [PL.kill1]
    by_cases e : o = k
    · subst e; simp; exact .any
    · have : Nat.beq o k = false := by cases hb : Nat.beq o k with | false => rfl | true => exact absurd (Nat.eq_of_beq_eq_true hb) e
      rw [this, cond_false]
      refine .msl (Nat.lt_of_lt_of_le ho hc.len) hl hn fun sz es' fz' h1 => ?_
      obtain ⟨es, fz, h2, h3⟩ := hc.arr o sz es' fz' e ho h1
      obtain ⟨ob, g3, g4, g5, g6, g7⟩ := hc.live o _ e ho h1 (by simp)
      obtain ⟨a1, a2, a3⟩ := h sz es fz h2
      rw [g5, g6]
      exact ⟨a1, by omega, a3⟩
  | _ => exact .any

theorem RelV.kill (hs : Stab w w' Pr Pr') (hc : CmpBut k p p' os os') {x : V} {v : Value} (h : RelV w Pr p os x v) : RelV w' Pr' p' os' (PL.kill k x) v := by
  have h0 := h
  cases h with
  | agg hz hr => exact .agg (by simpa using hz) (fun i hi => by simp at hi ⊢; exact (hr i hi).kill1 hs hc)
  | fn hf hcz hrf hrc => exact .fn (by simpa using hf) (by simpa using hcz) (fun i hi => by simp at hi ⊢; exact (hrf i hi).kill1 hs hc) (fun i hi => by simp at hi ⊢; exact (hrc i hi).kill1 hs hc)
  | _ => exact h0.kill1 hs hc

theorem look_kill (env : List (Nat × V)) (t : Nat) : look (env.map fun x => (x.1, PL.kill k x.2)) t = PL.kill k (look env t) := by
  induction env with
  | nil => rfl
  | cons x r ih =>
    obtain ⟨y, v⟩ := x
    simp only [List.map_cons, look, ih]
    cases Nat.beq y t <;> rfl

theorem EnvR.kill {tmps : Array Value} {env : List (Nat × V)} (hs : Stab w w' Pr Pr') (hc : CmpBut k p p' os os') (h : EnvR w Pr p os tmps env) : EnvR w' Pr' p' os' tmps (env.map fun x => (x.1, PL.kill k x.2)) :=
  fun t => by rw [look_kill]; exact (h t).kill hs hc

theorem Ob.kill_facts (ob : Ob) : (ob.kill k).sz = ob.sz ∧ (ob.kill k).cnt = ob.cnt ∧ (ob.kill k).fzn = ob.fzn ∧ (ob.kill k = .dead ↔ ob = .dead) := by
  cases ob <;> simp [Ob.kill, Ob.sz, Ob.cnt, Ob.fzn]

theorem PreOb.kill {room : Nat} {vs : Array Value} {ob : Ob} (hs : Stab w w' Pr Pr') (hc : CmpBut k p p' os os') (h : PreOb w Pr p os room vs ob) : PreOb w' Pr' p' os' room vs (ob.kill k) := by
  cases ob with
  | var cs fz =>
    obtain ⟨h1, h2⟩ := h
    refine ⟨by simpa using h1, fun j hj => ?_⟩
    simp at hj
    obtain ⟨v, k1, k2, k3⟩ := h2 j hj
    exact ⟨v, k1, k2, by simpa using k3.kill hs hc⟩
  | arr sz es fz =>
    obtain ⟨h1, h2, h3, h4, h5⟩ := h
    refine ⟨h1, h2, h3, h4, fun i hi j hj => ?_⟩
    obtain ⟨v, k1, k2, k3⟩ := h5 i hi j hj
    exact ⟨v, k1, k2, k3.mono hs⟩
  | dead => exact h

/-- An array has more elements; it lies where it lay, or in a block of its own; slices of it are spoken of no more. -/
theorem grown {nF : Nat} (hM : Mem w Pr p os) {o sz : Nat} {es es' : List D} {fz : Bool} {vs vs' : Array Value} {et et' : TypeId} {b room : Nat} (ho : os[o]? = some (.arr sz es fz)) (hnF : nF ≤ o)
    (hv : w.heap[p.bl o]? = some (.cells vs et (0, 0)))
    (hb : (b = p.bl o ∧ room = p.room o ∧ w'.heap.size = w.heap.size ∧ ∀ j, j < es.length * sz → vs'[j]? = vs[j]?) ∨ (b = w.heap.size ∧ w'.heap.size = w.heap.size + 1))
    (hw : w'.heap[b]? = some (.cells vs' et' (0, 0))) (hwo : ∀ k, k ≠ b → k < w.heap.size → w'.heap[k]? = w.heap[k]?)
    (h1 : w'.os = w.os) (h2 : w'.tape = w.tape) (h3 : w'.output = w.output)
    (hob : PreOb w Pr p os room vs' (.arr sz es' fz)) (hlen : es.length ≤ es'.length) :
    Moved nF w w' Pr (Pr.more fz b (es'.length * sz)) p (p.at o b room) os ((os.map (Ob.kill o)).set o (.arr sz es' fz)) ∧
      Stab w w' Pr (Pr.more fz b (es'.length * sz)) ∧ CmpBut o p (p.at o b room) os ((os.map (Ob.kill o)).set o (.arr sz es' fz)) := by
  have hol : o < os.length := by
    rcases Nat.lt_or_ge o os.length with h | h
    · exact h
    · rw [List.getElem?_eq_none h] at ho; cases ho
  have hsz : w.heap.size ≤ w'.heap.size := by rcases hb with h | h <;> omega
  have hprO : ∀ j, Pr (p.bl o) j ↔ fz = true ∧ j < es.length * sz := by obtain ⟨_, _, _, _, _, _, _, _, g⟩ := hM.ob o _ ho; exact g
  have hst : Stab w w' Pr (Pr.more fz b (es'.length * sz)) := by
    refine ⟨fun _ _ h => .inl h, fun b' i v hp hc => ?_⟩
    have hin := hM.prIn b' i hp
    by_cases hbb : b' = b
    · subst hbb
      rcases hb with ⟨rfl, _, _, hk⟩ | ⟨rfl, _⟩
      · obtain ⟨g1, g2⟩ := (hprO i).1 hp
        have := hk i g2
        simp only [cellAt, World.cell?, hv, hw] at hc ⊢
        simp at hc ⊢
        rw [this]; exact hc
      · omega
    · rw [cellAt_of_heap (hwo b' hbb hin)]; exact hc
  have get : ∀ {i : Nat} {x : Ob}, ((os.map (Ob.kill o)).set o (.arr sz es' fz))[i]? = some x → (i ≠ o ∧ ∃ y, os[i]? = some y ∧ x = y.kill o) ∨ (i = o ∧ x = .arr sz es' fz) := by
    intro i x h
    rcases os_get_set h with ⟨g1, g2⟩ | ⟨g1, _, g2⟩
    · rw [List.getElem?_map] at g2
      cases h' : os[i]? with
      | none => simp [h'] at g2
      | some y => simp [h'] at g2; exact .inl ⟨g1, y, rfl, g2.symm⟩
    · exact .inr ⟨g1, g2⟩
  have hpl : ∀ i, i ≠ o → (p.at o b room).bl i = p.bl i ∧ (p.at o b room).room i = p.room i := fun i hi => by simp [Place.at, hi]
  have hpo : (p.at o b room).bl o = b ∧ (p.at o b room).room o = room := by simp [Place.at]
  have hcb : CmpBut o p (p.at o b room) os ((os.map (Ob.kill o)).set o (.arr sz es' fz)) := by
    refine ⟨by simp, fun i x hi hl h hd => ?_, fun i sz2 es2 fz2 hi hl h => ?_⟩
    · rcases get h with ⟨_, y, g1, rfl⟩ | ⟨g1, _⟩
      · obtain ⟨f1, f2, f3, f4⟩ := Ob.kill_facts (k := o) y
        exact ⟨y, g1, fun e => hd (f4.2 e), (hpl i hi).1, (hpl i hi).2, f1⟩
      · exact absurd g1 hi
    · rcases get h with ⟨_, y, g1, g2⟩ | ⟨g1, _⟩
      · cases y with
        | arr => simp only [Ob.kill, Ob.arr.injEq] at g2; obtain ⟨rfl, rfl, rfl⟩ := g2; exact ⟨_, _, g1, Nat.le_refl _⟩
        | var => simp [Ob.kill] at g2
        | dead => simp [Ob.kill] at g2
      · exact absurd g1 hi
  have hbl : ∀ i y, i ≠ o → os[i]? = some y → y ≠ .dead → p.bl i ≠ b := by
    intro i y hi hy hd e
    rcases hb with ⟨rfl, _⟩ | ⟨rfl, _⟩
    · exact hi (hM.inj i o y _ hy ho hd (by simp) e)
    · have := hM.blk i y hy hd; omega
  refine ⟨⟨⟨hst, ⟨h1, h2, h3, hsz, fun k hk hf => hwo k (fun e => ?_) hk⟩, fun b' i hp => ?_, by simp, fun i x hi h hd => ?_, fun i sz2 es2 fz2 hi h => ?_, fun i x h hi hd => ?_⟩, ?_⟩, hst, hcb⟩
  · subst e
    rcases hb with ⟨rfl, _⟩ | ⟨rfl, _⟩
    · exact hf ⟨o, _, ho, by simp, rfl⟩
    · omega
  · rcases hp with hp | ⟨_, rfl, _⟩
    · exact .inl hp
    · rcases hb with ⟨rfl, _⟩ | ⟨rfl, _⟩
      · exact .inr (.inr ⟨o, _, ho, by simp, rfl⟩)
      · exact .inr (.inl (Nat.le_refl _))
  · exact hcb.live i x (by omega) (by omega) h hd
  · exact hcb.arr i sz2 es2 fz2 (by omega) (by omega) h
  · rcases get h with ⟨g1, y, g2, rfl⟩ | ⟨rfl, rfl⟩
    · exact .inr ⟨y, g2, fun e => hd ((Ob.kill_facts y).2.2.2.2 e), (hpl i g1).1⟩
    · rw [hpo.1]
      rcases hb with ⟨rfl, _⟩ | ⟨rfl, _⟩
      · exact .inr ⟨_, ho, by simp, rfl⟩
      · exact .inl (Nat.le_refl _)
  · refine ⟨fun b' i hp => ?_, fun i x h hd => ?_, fun i i' x y hx hy hdx hdy e => ?_, fun i x h => ?_⟩
    · rcases hp with hp | ⟨_, rfl, _⟩
      · exact Nat.lt_of_lt_of_le (hM.prIn b' i hp) hsz
      · exact (Array.getElem?_eq_some_iff.1 hw).1
    · rcases get h with ⟨g1, y, g2, rfl⟩ | ⟨rfl, rfl⟩
      · rw [(hpl i g1).1]; exact Nat.lt_of_lt_of_le (hM.blk i y g2 fun e => hd ((Ob.kill_facts y).2.2.2.2 e)) hsz
      · rw [hpo.1]; exact (Array.getElem?_eq_some_iff.1 hw).1
    · rcases get hx with ⟨n1, y1, g1, rfl⟩ | ⟨rfl, rfl⟩ <;> rcases get hy with ⟨n2, y2, g2, rfl⟩ | ⟨rfl, rfl⟩
      · rw [(hpl i n1).1, (hpl i' n2).1] at e
        exact hM.inj i i' y1 y2 g1 g2 (fun e => hdx ((Ob.kill_facts y1).2.2.2.2 e)) (fun e => hdy ((Ob.kill_facts y2).2.2.2.2 e)) e
      · rw [(hpl i n1).1, hpo.1] at e
        exact absurd e (hbl i y1 n1 g1 (fun e => hdx ((Ob.kill_facts y1).2.2.2.2 e)))
      · rw [(hpl i' n2).1, hpo.1] at e
        exact absurd e.symm (hbl i' y2 n2 g2 (fun e => hdy ((Ob.kill_facts y2).2.2.2.2 e)))
      · rfl
    · rcases get h with ⟨n1, y, g1, rfl⟩ | ⟨rfl, rfl⟩
      · by_cases hd : y = .dead
        · subst hd; trivial
        · obtain ⟨vs0, et0, q1, q2, q3⟩ := (hM.ob i y g1).pre hd
          obtain ⟨f1, f2, f3, f4⟩ := Ob.kill_facts (k := o) y
          have hne := hbl i y n1 g1 hd
          refine ObRel.of_pre (et := et0) (.refl _ _) (.refl _ _) (q2.kill hst hcb) (by rw [(hpl i n1).1, hwo _ hne (hM.blk i y g1 hd)]; exact q1) (hpl i n1).2 fun j => ?_
          rw [(hpl i n1).1, f3, f2, ← q3]
          constructor
          · rintro (h | ⟨_, e, _⟩)
            · exact h
            · exact absurd e hne
          · exact .inl
      · have hob' : PreOb w' (Pr.more fz b (es'.length * sz)) (p.at i b room) ((os.map (Ob.kill i)).set i (.arr sz es' fz)) room vs' (.arr sz es' fz) := hob.kill hst hcb
        refine ObRel.of_pre (et := et') (.refl _ _) (.refl _ _) hob' (by rw [hpo.1]; exact hw) hpo.2 fun j => ?_
        rw [hpo.1]
        constructor
        · rintro (h | ⟨h1, _, h2⟩)
          · rcases hb with ⟨rfl, _⟩ | ⟨rfl, _⟩
            · obtain ⟨g1, g2⟩ := (hprO j).1 h
              have := Nat.mul_le_mul_right sz hlen
              exact ⟨g1, by simp only [Ob.cnt]; omega⟩
            · exact absurd h hM.prB
          · exact ⟨h1, h2⟩
        · rintro ⟨g1, g2⟩; exact .inr ⟨g1, rfl, g2⟩

end
end Go.PL
