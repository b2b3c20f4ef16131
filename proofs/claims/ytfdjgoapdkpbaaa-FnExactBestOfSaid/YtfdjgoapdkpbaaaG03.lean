/- A plain machine, sound for the given model, and contracts of functions over it, part 3: PlCalls PlWp PlQuiet PlDraw PlDraw2 PlDraw3 PlDraw4 PlRange PlDraw5 PlDraw6 PlEnd PlFn PlMono PlDen. Nothing is assumed. -/
import Derived.Test.YtfdjgoapdkpbaaaG02
import Derived.RangeFuncNested
import Derived.OrdersIn
import Derived.LoopIn
import Derived.Orders
set_option linter.unusedSimpArgs false
set_option linter.unusedVariables false
set_option linter.unusedSectionVars false
/- PlCalls -/
namespace Go.PL
open Go

/-- Blocks that hold what they hold: package-level variables; no object lies there. -/
structure GL where
  l : List (Nat × Obj)
  d : List (Nat × List D) := []

structure GOk (gl : GL) (w : World) (Pr : Pro) (p : Place) (os : List Ob) : Prop where
  cell : ∀ x ∈ gl.l, w.heap[x.1]? = some x.2
  apart : ∀ x ∈ gl.l, ¬ Oc p os x.1
  dat : ∀ x ∈ gl.d, RelD w Pr (.ptr x.2) (.pointer (some ⟨x.1, 0, none⟩))

/-- The table's variables are those that are told. -/
class TG (T : Tab) (gl : GL) : Prop where
  ok : T.gs = gl.d

theorem GOk.nil {w : World} {Pr : Pro} {p : Place} {os : List Ob} : GOk ⟨[], []⟩ w Pr p os := ⟨fun x h => (nomatch h), fun x h => (nomatch h), fun x h => (nomatch h)⟩

theorem GOk.inv {gl : GL} {g : Ghost} {w : World} {Pr : Pro} {p : Place} {os : List Ob} (h : GOk gl g.w0 g.Pr0 g.p0 g.os0) (hI : Inv g w Pr p os) : GOk gl w Pr p os := by
  have hlt : ∀ x ∈ gl.l, x.1 < g.w0.heap.size := fun x hx => (Array.getElem?_eq_some_iff.1 (h.cell x hx)).1
  refine ⟨fun x hx => ?_, fun x hx ho => ?_, fun x hx => (h.dat x hx).mono hI.stab⟩
  · rw [hI.frm.block x.1 (hlt x hx) (h.apart x hx)]
    exact h.cell x hx
  · rcases hI.own _ ho with k | k
    · have := hlt x hx
      omega
    · exact h.apart x hx k

theorem GOk.none {gl : GL} {w : World} {Pr : Pro} {p : Place} {os : List Ob} (h : GOk gl w Pr p os) : GOk gl w Pr p [] := ⟨h.cell, fun x _ => Oc.nil, h.dat⟩
theorem GOk.stab {gl : GL} {w : World} {Pr Pr' : Pro} {p : Place} {os : List Ob} (h : GOk gl w Pr p os) (hs : Stab w w Pr Pr') : GOk gl w Pr' p os := ⟨h.cell, h.apart, fun x hx => (h.dat x hx).mono hs⟩

/-- What a call of the plain machine says of the machine. -/
def Says (P : Program) (gl : GL) : Call := fun f args os r os' =>
  (∃ fn, P.funcs[f]? = some fn ∧ (fn.name == "runtime.NumGoroutine") = false ∧ fn.body.isNone = false) ∧
  ∀ (w : World) (Pr : Pro) (p : Place) (vals : Array Value), Mem w Pr p os → GOk gl w Pr p os → (hl : vals.size = args.length) → (∀ i (hi : i < args.length), RelV w Pr p os args[i] (vals[i]'(by omega))) →
    Calls P f vals w fun e w' => ∃ v Pr' p', e = .returned v ∧ Inv ⟨w, Pr, p, os⟩ w' Pr' p' os' ∧ RelV w' Pr' p' os' r v

/-- An iterator over the elements of a slice, the last first. -/
def BackSays (P : Program) (g : FuncId) : Prop := ∀ (m : Nat) (es : List Int) (lb : Value) (J : Nat → Pro → World → Prop) (Jx : World → Prop) (l : Nat) (w : World) (Pr : Pro),
  es.length * 8 ≤ 140737488351232 → (∀ k Pr W, J k Pr W → RelD W Pr (.ptr [.sl (es.map .i)]) lb) → J es.length Pr w →
  (∀ k Pr W, k < es.length → J (k + 1) Pr W → YieldAt Fence.wide m P l #[.int .i64 k, .int .i64 (es.getD k 0)] W
    (fun e W' => (e = .returned (.bool true) ∧ ∃ Pr', J k Pr' W') ∨ (e = .returned (.bool false) ∧ Jx W'))) →
  Calls P g #[.func (.yield l) #[] #[], lb] w (fun e W' => (∃ v, e = .returned v) ∧ ((∃ Pr', J 0 Pr' W') ∨ Jx W'))

class ItOk (T : Tab) (P : outParam Program) : Prop where
  ok : ∀ g ∈ T.bk, (∃ fn, P.funcs[g]? = some fn ∧ (fn.name == "runtime.NumGoroutine") = false ∧ fn.body.isNone = false) ∧ BackSays P g

section
variable {P : Program} {T : Tab} [TOk T P] {C : Call} {gl : GL}

theorem Inv.moved {w w' : World} {Pr Pr' : Pro} {p p' : Place} {os os' : List Ob} (h : Inv ⟨w, Pr, p, os⟩ w' Pr' p' os') {nF : Nat} (hnF : nF ≤ os.length) : Moved nF w w' Pr Pr' p p' os os' := by
  refine ⟨⟨h.stab, h.frm, h.prN, h.cmp.len, fun o ob' ho h1 h2 => h.cmp.live o ob' (by simp only; omega) h1 h2, fun o ob sz n ho h1 => h.cmp.arr o ob sz n (by simp only; omega) h1, h.own⟩, h.mem⟩

theorem Mem.none {w : World} {Pr : Pro} {p : Place} {os : List Ob} (h : Mem w Pr p os) : Mem w Pr p [] :=
  ⟨h.prIn, fun o ob ho => by simp at ho, fun o o' a b ha => by simp at ha, fun o ob ho => by simp at ho, fun o ob k c ho => by simp at ho⟩

/-- Two kinds of objects side by side. -/
def Place.join (p q : Place) (n B : Nat) : Place := ⟨fun o => if o < n then p.bl o else q.bl (o - n), fun o => if o < n then p.room o else q.room (o - n),
  fun k => if k < B then (match p.ow k with | some (o, c) => if o < n then some (o, c) else none | none => none) else (q.ow k).map fun x => (n + x.1, x.2)⟩

theorem Place.join_ow {p q : Place} {n B k o c : Nat} : (p.join q n B).ow k = some (o, c) ↔ (k < B ∧ o < n ∧ p.ow k = some (o, c)) ∨ (B ≤ k ∧ ∃ o', o = n + o' ∧ q.ow k = some (o', c)) := by
  simp only [Place.join]
  by_cases hk : k < B
  · rw [if_pos hk]
    cases hp : p.ow k with
    | none => simp; omega
    | some x =>
      obtain ⟨a, b⟩ := x
      show (if a < n then some (a, b) else none) = some (o, c) ↔ _
      by_cases ha : a < n
      · rw [if_pos ha]
        constructor
        · intro h; cases h; exact .inl ⟨hk, ha, rfl⟩
        · rintro (⟨_, _, h⟩ | ⟨h, _⟩)
          · exact h
          · omega
      · rw [if_neg ha]
        constructor
        · intro h; cases h
        · rintro (⟨_, h, h2⟩ | ⟨h, _⟩)
          · cases h2; exact absurd h ha
          · omega
  · rw [if_neg hk]
    cases hq : q.ow k with
    | none => simp; omega
    | some x =>
      obtain ⟨a, b⟩ := x
      constructor
      · intro h; cases h; exact .inr ⟨by omega, a, rfl, rfl⟩
      · rintro (⟨h, _⟩ | ⟨_, o', rfl, h⟩)
        · omega
        · cases h; rfl

theorem get_join {os N : List Ob} {o : Nat} {ob : Ob} (h : (os ++ N)[o]? = some ob) : (o < os.length ∧ os[o]? = some ob) ∨ (os.length ≤ o ∧ N[o - os.length]? = some ob) := by
  by_cases hlt : o < os.length
  · rw [List.getElem?_append_left hlt] at h; exact .inl ⟨hlt, h⟩
  · rw [List.getElem?_append_right (by omega)] at h; exact .inr ⟨by omega, h⟩

section
variable {w : World} {Pr : Pro} {p q : Place} {os N : List Ob} {B : Nat}

theorem RelV.shift1 {x : V} {v : Value} (h : RelV w Pr q N x v) : RelV w Pr (p.join q os.length B) (os ++ N) (x.shift1 os.length) v := by
  cases h with
  | d h => exact .d h
  | @ref o i j a ho h =>
    refine .ref (by simp; omega) fun ob h1 h2 => ?_
    rw [List.getElem?_append_right (by omega)] at h1
    rw [show os.length + o - os.length = o by omega] at h1
    have hne : ¬ os.length + o < os.length := by omega
    rw [h ob h1 h2]
    simp [Place.join, hne]
  | @msl o off len A cap ho hl hn h =>
    refine .msl (by simp; omega) hl hn fun ob sz n h1 h1' => ?_
    rw [List.getElem?_append_right (by omega)] at h1
    rw [show os.length + o - os.length = o by omega] at h1
    have := h ob sz n h1 h1'
    have hne : ¬ os.length + o < os.length := by omega
    simpa [Place.join, hne] using this
  | _ => exact .any

theorem RelV.shift2 {x : V} {v : Value} (h : RelV w Pr q N x v) : RelV w Pr (p.join q os.length B) (os ++ N) (x.shift2 os.length) v := by
  have h0 := h
  cases h with
  | agg hz hr => exact .agg (by simpa using hz) (fun i hi => by simp at hi ⊢; exact (hr i hi).shift1)
  | fn hf hcz hrf hrc => exact .fn (by simpa using hf) (by simpa using hcz) (fun i hi => by simp at hi ⊢; exact (hrf i hi).shift1) (fun i hi => by simp at hi ⊢; exact (hrc i hi).shift1)
  | _ => exact h0.shift1

theorem RelV.shift {x : V} {v : Value} (h : RelV w Pr q N x v) : RelV w Pr (p.join q os.length B) (os ++ N) (x.shift os.length) v := by
  have h0 := h
  cases h with
  | tup hz hr => exact .tup (by simpa using hz) (fun i hi => by simp at hi ⊢; exact (hr i hi).shift2)
  | _ => exact h0.shift2

end

/-- Memory of the caller's objects and of those that came back. -/
theorem Mem.join {w w' : World} {Pr Pr' : Pro} {p q : Place} {os N : List Ob} (hM : Mem w Pr p os) (h : Inv ⟨w, Pr, p, []⟩ w' Pr' q N) (hpl0 : N.all Ob.plain = true) {nF : Nat} (hnF : nF ≤ os.length) :
    Moved nF w w' Pr Pr' p (p.join q os.length w.heap.size) os (os ++ N) ∧ Stab w w' Pr Pr' ∧ Cmp p (p.join q os.length w.heap.size) os (os ++ N) := by
  have hfb : ∀ k, ¬ Ghost.fb ⟨w, Pr, p, []⟩ k := fun k => Oc.nil
  have hblk : ∀ k, k < w.heap.size → w'.heap[k]? = w.heap[k]? := fun k hk => h.frm.block k hk (hfb k)
  have hprN : ∀ b i, Pr' b i → Pr b i ∨ w.heap.size ≤ b := fun b i hp => by
    rcases h.prN b i hp with h1 | h1 | h1
    · exact .inl h1
    · exact .inr h1
    · exact absurd h1 (hfb b)
  have hpl : ∀ o, o < os.length → (p.join q os.length w.heap.size).bl o = p.bl o ∧ (p.join q os.length w.heap.size).room o = p.room o := fun o ho => by simp [Place.join, ho]
  have hpr : ∀ o, os.length ≤ o → (p.join q os.length w.heap.size).bl o = q.bl (o - os.length) ∧ (p.join q os.length w.heap.size).room o = q.room (o - os.length) := fun o ho => by
    have : ¬ o < os.length := by omega
    simp [Place.join, this]
  have hc : Cmp p (p.join q os.length w.heap.size) os (os ++ N) := by
    refine ⟨by simp, fun o ob' ho h1 hd => ?_, fun o ob sz n ho h1 h1' => ?_⟩
    · rw [List.getElem?_append_left ho] at h1
      exact ⟨ob', h1, hd, (hpl o ho).1, (hpl o ho).2, rfl⟩
    · rw [List.getElem?_append_left ho] at h1
      exact ⟨ob, n, h1, h1', Nat.le_refl _⟩
  have hocc : ∀ k, Oc q N k → w.heap.size ≤ k := fun k hk => by
    rcases h.own k hk with h1 | h1
    · exact h1
    · exact absurd h1 (hfb k)
  have hown : ∀ o ob, N[o]? = some ob → ob ≠ .dead → w.heap.size ≤ q.bl o := fun o ob h1 h2 => hocc _ ⟨o, ob, h1, h2, .inl rfl⟩
  refine ⟨⟨⟨h.stab, ⟨h.frm.os, h.frm.tape, h.frm.output, h.frm.size, fun k hk _ => hblk k hk⟩, fun b i hp => (hprN b i hp).imp_right .inl, by simp, fun o ob' ho h1 h2 => hc.live o ob' (by omega) h1 h2,
    fun o ob sz n ho h1 h1' => hc.arr o ob sz n (by omega) h1 h1', ?_⟩, ?_⟩, h.stab, hc⟩
  · rintro k ⟨o, ob', h1, h2, h3⟩
    rcases get_join h1 with ⟨g1, g2⟩ | ⟨g1, g2⟩
    · refine .inr ⟨o, ob', g2, h2, ?_⟩
      rw [(hpl o g1).1] at h3
      refine h3.imp_right fun ⟨a, c, b⟩ => ⟨a, c, ?_⟩
      rcases Place.join_ow.1 b with ⟨_, _, h4⟩ | ⟨_, o', h4, _⟩
      · exact h4
      · omega
    · rw [(hpr o g1).1] at h3
      rcases h3 with rfl | ⟨a, c, b⟩
      · exact .inl (hown _ _ g2 h2)
      · rcases Place.join_ow.1 b with ⟨_, h4, _⟩ | ⟨h4, _⟩
        · omega
        · exact .inl h4
  · refine ⟨h.mem.prIn, fun o ob ho hd => ?_, fun o o' a b ha hb hda hdb e => ?_, fun o ob ho => ?_, fun o ob k c ho ht hk => ?_⟩
    · rcases get_join ho with ⟨g1, g2⟩ | ⟨g1, g2⟩
      · rw [(hpl o g1).1]; exact Nat.lt_of_lt_of_le (hM.blk o ob g2 hd) h.frm.size
      · rw [(hpr o g1).1]; exact h.mem.blk _ ob g2 hd
    · rcases get_join ha with ⟨g1, g2⟩ | ⟨g1, g2⟩ <;> rcases get_join hb with ⟨g3, g4⟩ | ⟨g3, g4⟩
      · rw [(hpl o g1).1, (hpl o' g3).1] at e; exact hM.inj o o' a b g2 g4 hda hdb e
      · rw [(hpl o g1).1, (hpr o' g3).1] at e
        have := hM.blk o a g2 hda; have := hown _ _ g4 hdb; omega
      · rw [(hpr o g1).1, (hpl o' g3).1] at e
        have := hM.blk o' b g4 hdb; have := hown _ _ g2 hda; omega
      · rw [(hpr o g1).1, (hpr o' g3).1] at e
        have := h.mem.inj _ _ a b g2 g4 hda hdb e; omega
    · rcases get_join ho with ⟨g1, g2⟩ | ⟨g1, g2⟩
      · refine ObRel.mono h.stab hc (fun hd => ⟨(hpl o g1).1, (hpl o g1).2, hblk _ (hM.blk o ob g2 hd), fun j => ⟨fun hp => ?_, h.stab.pr _ _⟩⟩) (fun ht k c hk => ?_) (hM.ob o ob g2)
        · rcases hprN _ _ hp with h5 | h5
          · exact h5
          · have := hM.blk o ob g2 hd; omega
        · have := (hM.own o ob k c g2 ht hk).1.lt
          exact ⟨Place.join_ow.2 (.inl ⟨this, g1, hk⟩), hblk k this⟩
      · have h5 := h.mem.ob _ ob g2
        cases ob with
        | var cs fz => exact absurd (List.all_eq_true.1 hpl0 _ (List.mem_of_getElem? g2)) (by simp [Ob.plain])
        | arr sz es fz =>
          obtain ⟨vs, et, k1, k2, k3, k4, k5, k6, k7⟩ := h5
          exact ⟨vs, et, by rw [(hpr o g1).1]; exact k1, by rw [(hpr o g1).2]; exact k2, by rw [(hpr o g1).2]; exact k3, by rw [(hpr o g1).2]; exact k4, k5, k6, by rw [(hpr o g1).1]; exact k7⟩
        | dead => trivial
        | tree sz es =>
          have hp := List.all_eq_true.1 hpl0 _ (List.mem_of_getElem? g2)
          simp only [Ob.plain] at hp
          obtain ⟨ds, hds⟩ := Option.isSome_iff_exists.1 hp
          have := allD_rel hds
          subst this
          obtain ⟨vs, et, k1, k2, k3, k4, k5, k6, k7⟩ := h5
          refine ⟨vs, et, by rw [(hpr o g1).1]; exact k1, by rw [(hpr o g1).2]; exact k2, by rw [(hpr o g1).2]; exact k3, by rw [(hpr o g1).2]; exact k4, k5, fun i hi j hj => ?_, by rw [(hpr o g1).1]; exact k7⟩
          obtain ⟨v, z1, z2, z3⟩ := k6 i hi j hj
          refine ⟨v, z1, z2, ?_⟩
          simp only [List.getElem_map, V.cells, RelC] at z3 ⊢
          exact Tr.mono z3 fun k hk => ⟨Place.join_ow.2 (.inr ⟨hocc k ⟨_, _, g2, by simp, .inr ⟨rfl, _, hk⟩⟩, o - os.length, by omega, hk⟩), rfl⟩
    · rcases get_join ho with ⟨g1, g2⟩ | ⟨g1, g2⟩
      · rcases Place.join_ow.1 hk with ⟨_, _, h4⟩ | ⟨_, o', h4, _⟩
        · obtain ⟨a1, a2, a3⟩ := hM.own o ob k c g2 ht h4
          refine ⟨a1.of (hblk k a1.lt), fun i hi => ?_, fun o' ob' h5 h6 => ?_⟩
          · rcases hprN k i hi with h7 | h7
            · exact a2 i h7
            · have := a1.lt; omega
          · rcases get_join h5 with ⟨g3, g4⟩ | ⟨g3, g4⟩
            · rw [(hpl o' g3).1]; exact a3 o' ob' g4 h6
            · rw [(hpr o' g3).1]; have := hown _ _ g4 h6; have := a1.lt; omega
        · omega
      · rcases Place.join_ow.1 hk with ⟨_, h4, _⟩ | ⟨hB, o', h4, h5⟩
        · omega
        · have e : o - os.length = o' := by omega
          rw [e] at g2
          obtain ⟨a1, a2, a3⟩ := h.mem.own o' ob k c g2 ht h5
          refine ⟨a1, a2, fun o2 ob2 h6 h7 => ?_⟩
          rcases get_join h6 with ⟨g3, g4⟩ | ⟨g3, g4⟩
          · rw [(hpl o2 g3).1]; have := hM.blk o2 ob2 g4 h7; omega
          · rw [(hpr o2 g3).1]; exact a3 _ ob2 g4 h7

theorem mapL_len {f : V → Option (D × List Nat)} : ∀ {vs : List V} {ds : List D} {l : List Nat}, mapL f vs = some (ds, l) → ds.length = vs.length
  | [], ds, l, h => by simp only [mapL, Option.some.injEq, Prod.mk.injEq] at h; obtain ⟨rfl, rfl⟩ := h; rfl
  | v :: r, ds, l, h => by
    simp only [mapL] at h
    split at h
    · rename_i x a xs b h1 h2
      simp only [Option.some.injEq, Prod.mk.injEq] at h
      obtain ⟨rfl, rfl⟩ := h
      simp [mapL_len h2]
    · cases h

theorem RelV.scal {w w' : World} {Pr Pr' : Pro} {p p' : Place} {os os' : List Ob} {n : Nat} {r : V} {v : Value} (h : RelV w Pr p os r v) (hs : r.scal = true) : RelV w' Pr' p' os' (r.shift n) v := by
  have leaf : ∀ {x : D} {v : Value}, x.scal = true → RelD w Pr x v → RelD w' Pr' x v := by
    intro x v hx hr
    cases x <;> first | (simp [D.scal] at hx; done) | skip
    cases hr; exact .val _
  cases r with
  | d x => cases h with
    | d h => exact .d (leaf (by simpa [V.scal] using hs) h)
  | tup cs => cases h with
    | @tup _ vs hz hr =>
      refine .tup (by simpa using hz) fun i hi => ?_
      simp at hi ⊢
      have h1 := hr i hi
      simp only [V.scal, List.all_eq_true] at hs
      have h2 := hs _ (List.getElem_mem hi)
      generalize cs[i] = c at h1 h2
      cases c with
      | d x => cases h1 with
        | d h => exact .d (leaf h2 h)
      | _ => simp at h2
  | _ => simp [V.scal] at hs

theorem D.fl1_any {w w' : World} {Pr Pr' : Pro} {x : D} {v : Value} (hx : x.fl1 = true) (h : RelD w Pr x v) : RelD w' Pr' x v := D.fl1_rel (w := w) (S := fun _ => True) hx (D.fl1_tr hx h _ _)

theorem D.fl_any {w w' : World} {Pr Pr' : Pro} {x : D} {v : Value} (hx : x.fl = true) (h : RelD w Pr x v) : RelD w' Pr' x v := by
  cases x with
  | agg cs =>
    cases h with
    | agg _ vs hs hr =>
      simp only [D.fl, List.all_eq_true] at hx
      exact .agg cs vs hs fun i hi => D.fl1_any (hx _ (List.getElem_mem hi)) (hr i hi)
  | _ => exact D.fl1_any hx h

section
variable {w w' : World} {Pr Pr' : Pro} {p : Place} {os : List Ob}
theorem RelV.own1 {x : V} {v : Value} (hx : x.own1 = true) (h : RelV w Pr p os x v) : RelV w' Pr' p os x v := by
  cases h with
  | d h => exact .d (D.fl_any hx h)
  | msl h1 h2 h3 h4 => exact .msl h1 h2 h3 h4
  | _ => cases hx

theorem RelV.own2 {x : V} {v : Value} (hx : x.own2 = true) (h : RelV w Pr p os x v) : RelV w' Pr' p os x v := by
  have h0 := h
  cases h with
  | agg hz hr =>
    simp only [V.own2, List.all_eq_true] at hx
    exact .agg hz fun i hi => (hr i hi).own1 (hx _ (List.getElem_mem hi))
  | _ => exact h0.own1 hx

theorem RelV.own {x : V} {v : Value} (hx : x.own = true) (h : RelV w Pr p os x v) : RelV w' Pr' p os x v := by
  have h0 := h
  cases h with
  | tup hz hr =>
    simp only [V.own, List.all_eq_true] at hx
    exact .tup hz fun i hi => (hr i hi).own2 (hx _ (List.getElem_mem hi))
  | _ => exact h0.own2 hx
end

theorem Ob.own_plain {ob : Ob} (h : ob.own = true) : ob.plain = true := by
  cases ob with
  | var => cases h
  | arr => rfl
  | dead => rfl
  | tree => exact h

/-- What came back reads nothing of what was read. -/
theorem Inv.own' {w w' : World} {Pr Pr1 Pr' : Pro} {p q : Place} {os N : List Ob} (hM : Mem w Pr p os) (s1 : Stab w w Pr Pr1) (hI : Inv ⟨w, Pr1, p, []⟩ w' Pr' q N) (hN : N.all Ob.own = true) : Inv ⟨w, Pr, p, []⟩ w' Pr q N := by
  have hfb : ∀ (Pr : Pro) k, ¬ Ghost.fb ⟨w, Pr, p, []⟩ k := fun _ k => Oc.nil
  have hocc : ∀ k, Oc q N k → w.heap.size ≤ k := fun k hk => by
    rcases hI.own k hk with h1 | h1
    · exact h1
    · exact absurd h1 (hfb _ k)
  have hpr : ∀ k i, Pr k i → k < w.heap.size := fun k i h => hM.prIn k i h
  refine ⟨⟨fun b i hp => Nat.lt_of_lt_of_le (hM.prIn b i hp) hI.frm.size, hI.mem.blk, hI.mem.inj, fun o ob ho => ?_, fun o ob k c ho ht hk => ?_⟩,
    ⟨hI.frm.os, hI.frm.tape, hI.frm.output, hI.frm.size, fun k hk _ => hI.frm.block k hk (hfb _ k)⟩, ⟨fun _ _ h => h, fun b i v hp hc => hI.stab.cell b i v (s1.pr _ _ hp) hc⟩, fun b i hp => .inl hp, hI.cmp, hI.own⟩
  · have h1 := List.all_eq_true.1 hN _ (List.mem_of_getElem? ho)
    have h2 := hI.mem.ob o ob ho
    have hnp : ob ≠ .dead → ∀ j, ¬ Pr (q.bl o) j := fun hd j hp => by
      have := hocc _ ⟨o, ob, ho, hd, .inl rfl⟩; have := hpr _ _ hp; omega
    cases ob with
    | var => cases h1
    | dead => trivial
    | arr sz es fz =>
      cases fz with
      | true => cases h1
      | false =>
        obtain ⟨vs, et, k1, k2, k3, k4, k5, k6, k7⟩ := h2
        refine ⟨vs, et, k1, k2, k3, k4, k5, fun i hi j hj => ?_, fun j => ⟨fun h => absurd h (hnp (by simp) j), fun h => by cases h.1⟩⟩
        obtain ⟨v, z1, z2, z3⟩ := k6 i hi j hj
        simp only [Ob.own, List.all_eq_true] at h1
        exact ⟨v, z1, z2, D.fl1_any (h1 _ (List.getElem_mem hi) _ (List.getElem_mem hj)) z3⟩
    | tree sz es =>
      obtain ⟨ds, hds⟩ := Option.isSome_iff_exists.1 (show (allD es).isSome = true from h1)
      have := allD_rel hds
      subst this
      obtain ⟨vs, et, k1, k2, k3, k4, k5, k6, k7⟩ := h2
      refine ⟨vs, et, k1, k2, k3, k4, k5, fun i hi j hj => ?_, hnp (by simp)⟩
      obtain ⟨v, z1, z2, z3⟩ := k6 i hi j hj
      refine ⟨v, z1, z2, ?_⟩
      simp only [List.getElem_map, V.cells, RelC] at z3 ⊢
      exact z3
  · obtain ⟨a1, a2, a3⟩ := hI.mem.own o ob k c ho ht hk
    refine ⟨a1, fun i hi => ?_, a3⟩
    have := hocc k ⟨o, ob, ho, (by rintro rfl; cases ht), .inr ⟨ht, c, hk⟩⟩
    have := hpr _ _ hi; omega

/-- A call of the plain machine, in the middle of a body. -/
theorem callK_sound {nF : Nat} {w : World} {Pr : Pro} {p : Place} {st : St} {tmps : Array Value} {K : V → St → Prop} (hC : ∀ f a os r os', C f a os r os' → Says P gl f a os r os')
    (hM : Mem w Pr p st.os) (hG : GOk gl w Pr p st.os) (hE : EnvR w Pr p st.os tmps st.env) (hnF : nF ≤ st.os.length) {n : FuncId} {vs : List V} {vals : Array Value} (hl : vals.size = vs.length)
    (hr : ∀ i (hi : i < vs.length), RelV w Pr p st.os vs[i] (vals[i]'(by omega))) (h : callK C st n vs K) :
    (∃ fn, P.funcs[n]? = some fn ∧ (fn.name == "runtime.NumGoroutine") = false ∧ fn.body.isNone = false) ∧
    Calls P n vals w fun e w' => ∃ v s u Pr' p', e = .returned u ∧ K v s ∧ Got nF w w' Pr Pr' p p' st s tmps ∧ RelV w' Pr' p' s.os v u := by
  rcases h with ⟨ds, l, r, N, h1, h2, h3, h4⟩ | ⟨r, os', h2, h4⟩ | ⟨ds, l, r, N, h1, h2, h5, h3, h4⟩
  · obtain ⟨Pr1, m1, s1, c1, f1⟩ := frozenM (nF := nF) hnF l hM
    obtain ⟨d1, d2⟩ := mapL_rel (fun h hz hr => leaf_rel hM s1 h hz hr) h1 f1
    obtain ⟨hx, hcall⟩ := hC _ _ _ _ _ h2
    refine ⟨hx, (hcall w Pr1 p vals m1.mem.none (hG.stab s1).none (by simp; omega) (fun i hi => by
      simp at hi ⊢
      exact .d (d2 i (by omega) hi _ (hr i (by omega))))).mono ?_⟩
    rintro e w' ⟨v, Pr', q, rfl, hI, hv⟩
    by_cases hs : r.scal = true ∧ N = []
    · obtain ⟨hs, rfl⟩ := hs
      rw [if_pos ⟨hs, rfl⟩] at h4
      have hI2 : Inv ⟨w, Pr, p, []⟩ w' Pr q [] := Inv.own' hM s1 hI rfl
      obtain ⟨m, s2, c2⟩ := Mem.join (N := []) hM hI2 (by simp) hnF
      simp only [List.append_nil] at m c2
      exact ⟨_, _, v, Pr, _, rfl, h4, ⟨m, EnvR.moved s2 c2 hE⟩, hv.scal hs⟩
    · rw [if_neg hs] at h4
      obtain ⟨m, s2, c2⟩ := Mem.join m1.mem hI h3 (Nat.le_trans hnF c1.len)
      have hlen : (freeze st.os l).length = st.os.length := freeze_len _ _
      refine ⟨_, _, v, Pr', _, rfl, h4, ⟨m1.trans m, EnvR.moved (s1.trans s2) (c1.trans c2) hE⟩, ?_⟩
      have := hv.shift (p := p) (os := freeze st.os l) (B := w.heap.size)
      rw [hlen] at this
      rw [hlen]
      exact this
  · obtain ⟨hx, hcall⟩ := hC _ _ _ _ _ h2
    refine ⟨hx, (hcall w Pr p vals hM hG hl hr).mono ?_⟩
    rintro e w' ⟨v, Pr', q, rfl, hI, hv⟩
    exact ⟨_, _, v, Pr', q, rfl, h4, ⟨hI.moved hnF, EnvR.moved hI.stab hI.cmp hE⟩, hv⟩

  · obtain ⟨Pr1, m1, s1, c1, f1⟩ := frozenM (nF := nF) hnF l hM
    obtain ⟨d1, d2⟩ := mapL_rel (fun h hz hr => leaf_rel hM s1 h hz hr) h1 f1
    obtain ⟨hx, hcall⟩ := hC _ _ _ _ _ h2
    refine ⟨hx, (hcall w Pr1 p vals m1.mem.none (hG.stab s1).none (by simp; omega) (fun i hi => by
      simp at hi ⊢
      exact .d (d2 i (by omega) hi _ (hr i (by omega))))).mono ?_⟩
    rintro e w' ⟨v, Pr', q, rfl, hI, hv⟩
    have hI2 : Inv ⟨w, Pr, p, []⟩ w' Pr q N := Inv.own' hM s1 hI h3
    obtain ⟨m, s2, c2⟩ := Mem.join hM hI2 (List.all_eq_true.2 fun x hx => Ob.own_plain (List.all_eq_true.1 h3 x hx)) hnF
    have hv2 : RelV w' Pr q N r v := hv.own h5
    exact ⟨_, _, v, Pr, _, rfl, h4, ⟨m, EnvR.moved s2 c2 hE⟩, hv2.shift⟩

end
end Go.PL

/- PlWp -/
namespace Go.PL
open Go

/-- The fence that lets all in; in a round or not. -/
def FR (r : Option Nat) : Fence := { Fence.wide with round := r }


section
variable {P : Program} {T : Tab} [TOk T P] {C : Call} {gl : GL} [TG T gl]

theorem Act.getD_put {a : Act} {t k : Tmp} {u : Value} (ht : t < a.tmps.size) : (a.put (some t) u).tmps.getD k undef = if t = k then u else a.tmps.getD k undef := by
  simp only [Act.put, Array.getD_eq_getD_getElem?, Array.getElem?_setIfInBounds]
  by_cases h : t = k
  · subst h; simp [ht]
  · simp [h]

def dOk (nt : Nat) (o : Oper) : Bool := match o.dst with
  | some t => Nat.blt t nt
  | none => true

theorem EnvR.put {w : World} {Pr : Pro} {p : Place} {s : St} {a : Act} {o : Oper} {v : V} {u : Value} (hE : EnvR w Pr p s.os a.tmps s.env) (hv : RelV w Pr p s.os v u) (hd : dOk a.tmps.size o = true) :
    EnvR w Pr p (s.put o.dst v).os (a.put o.dst u).tmps (s.put o.dst v).env := by
  unfold dOk at hd
  cases h : o.dst with
  | none => simpa [St.put, Act.put] using hE
  | some t =>
    rw [h] at hd
    have ht : t < a.tmps.size := by simpa [Nat.blt_eq] using hd
    intro k
    rw [Act.getD_put ht]
    simp only [St.put, look]
    cases hb : Nat.beq t k with
    | true => rw [Nat.eq_of_beq_eq_true hb, if_pos rfl]; exact hv
    | false => rw [if_neg (fun e => by rw [e, Nat.beq_refl] at hb; cases hb)]; exact hE k

theorem put_size (a : Act) (d : Option Tmp) (u : Value) : (a.put d u).tmps.size = a.tmps.size := by cases d <;> simp [Act.put]
theorem put_defers (a : Act) (d : Option Tmp) (u : Value) : (a.put d u).defers = a.defers := by cases d <;> rfl
theorem put_os (s : St) (d : Option Tmp) (v : V) : (s.put d v).os = s.os := by cases d <;> rfl

theorem Rel.got {g : Ghost} {st s : St} {a : Act} {w w' : World} {Pr Pr' : Pro} {p p' : Place} {o : Oper} {v : V} {u : Value} (hd0 : Marks g.w0.heap.size w a.defers) (hI : Inv g w Pr p st.os) (hg : Got g.os0.length w w' Pr Pr' p p' st s a.tmps)
    (hv : RelV w' Pr' p' s.os v u) (hd : dOk a.tmps.size o = true) : Rel g (s.put o.dst v) (a.put o.dst u) w' := by
  refine ⟨⟨Pr', p', ?_, hg.env.put hv hd⟩, by rw [put_defers]; exact hd0.step hI.mem hg.moved.step⟩
  rw [put_os]
  exact hI.step hg.moved.step hg.moved.mem

theorem execOp_value {ρ : Operand → Value} {dst : Option Tmp} {f : Operand} {args : Array Operand} {ats : Array TypeId} {type : TypeId} {pos : String} {after : Array Edge} {guard : Option (Nat × Bool)} {w : World}
    {n : FuncId} {first cap : Array Value} {fn : Func} (hf : ρ f = .func (.func n) first cap) (h1 : P.funcs[n]? = some fn) (h2 : (fn.name == "runtime.NumGoroutine") = false) (h3 : fn.body.isNone = false) :
    (execOp ρ ⟨dst, .call { callee := .value f, args, argTypes := ats }, type, pos, after, guard⟩).run P w = .ok (.enter n (first ++ args.map ρ ++ cap)) w := by
  have h2' : fn.name ≠ "runtime.NumGoroutine" := by simpa using h2
  have h3' : fn.body ≠ none := by intro e; rw [e] at h3; cases h3
  simp [execOp, resolve, hf, Deferred.ofValue, invoke, callFunc, h1, h2', h3']

theorem op1_sound {ro : Option Nat} {m : Nat} {nF nt : Nat} {g : Ghost} {st : St} {a : Act} {w : World} {o : Oper} {K : St → Prop} {next : Act → World → Prop} {Q : Exit → Act → World → Prop}
    (hC : ∀ f a os r os', C f a os r os' → Says P gl f a os r os') (hg : g.os0.length = nF) (hG : GOk gl g.w0 g.Pr0 g.p0 g.os0) (hR : Rel g st a w) (hn : a.tmps.size = nt) (hd : dOk nt o = true) (h : op1K T C nF o st K)
    (hK : ∀ s a' w', K s → Rel g s a' w' → a'.tmps.size = nt → next a' w') : o.wpIn (FR ro) m P a w next Q := by
  obtain ⟨⟨Pr, p, hI, hE⟩, h0⟩ := hR
  have hnF : nF ≤ st.os.length := by rw [← hg]; exact hI.cmp.len
  have fin0 : Out nF w Pr p st a.tmps (fun v s => K (s.put o.dst v)) ((execOp a.eval o).run P w) → o.wpIn (FR ro) m P a w next Q := by
    intro h
    obtain ⟨v, s, u, w', Pr', p', k1, k2, k3, k4⟩ := h
    have hres := hK _ (a.put o.dst u) w' k1 (Rel.got h0 hI (hg ▸ k3) k4 (by rw [hn]; exact hd)) (by rw [put_size]; exact hn)
    have hnd : ∀ c, o.op ≠ .defer c := by
      intro c e
      have k : ∀ r, (execOp a.eval o).run P w ≠ .ok (.value r) w' ∧ (execOp a.eval o).run P w ≠ .ok .skip w' := by
        intro r
        unfold execOp
        rw [e]
        constructor
        · simp only [Sem.run_bind]
          cases (resolve a.eval c o.type).run P w <;> simp [Result.andThen]
        · simp only [Sem.run_bind]
          cases (resolve a.eval c o.type).run P w <;> simp [Result.andThen]
      rcases k2 with k2 | ⟨k2, rfl⟩
      · exact (k _).1 k2
      · exact (k undef).2 k2
    refine ⟨fun _ _ => trivial, ?_⟩
    rw [Oper.semAt_eq _ _ _ hnd]
    rcases k2 with k2 | ⟨k2, rfl⟩
    · rw [k2]; exact hres
    · rw [k2]; exact hres
  have fin : opK T nF st o.op (fun v s => K (s.put o.dst v)) → o.wpIn (FR ro) m P a w next Q := fun h => fin0 (opK_sound hI.mem hE (by rw [TG.ok (T := T) (gl := gl)]; exact (hG.inv hI).dat) hnF o h)
  obtain ⟨dst, op, type, pos, after, guard⟩ := o
  unfold op1K at h
  simp only at h
  split at h
  · rename_i f args ats
    unfold calleeK at h
    have hf := evalR hE f
    have key : ∀ {n : FuncId} {first cap : Array Value} {vs : List V}, a.eval f = .func (.func n) first cap → (hl : (first ++ args.map a.eval ++ cap).size = vs.length) →
        (∀ i (hi : i < vs.length), RelV w Pr p st.os vs[i] ((first ++ args.map a.eval ++ cap)[i]'(by omega))) → callK C st n vs (fun v s => K (s.put dst v)) →
        Oper.wpIn (FR ro) m P ⟨dst, .call { callee := .value f, args, argTypes := ats }, type, pos, after, guard⟩ a w next Q := by
      intro n first cap vs e1 hl hr hk
      obtain ⟨⟨fn, q1, q2, q3⟩, hc⟩ := callK_sound hC hI.mem (hG.inv hI) hE hnF hl hr hk
      refine ⟨fun _ _ => trivial, ?_⟩
      rw [Oper.semAt_eq _ _ _ (by intro c e; cases e), execOp_value (P := P) (w := w) e1 q1 q2 q3, Oper.uponIn_enter]
      refine ⟨(fun e => nomatch e), ?_⟩
      refine (show CallsIn (FR ro) (m - 1) P n _ w _ from (callsIn_wide (n := m - 1)).2 hc).mono ?_
      rintro e w' ⟨v, s, u, Pr', p', rfl, k1, k3, k4⟩
      exact hK _ (a.put dst u) w' k1 (Rel.got (o := ⟨dst, .call { callee := .value f, args, argTypes := ats }, type, pos, after, guard⟩) h0 hI (hg ▸ k3) k4 (by rw [hn]; exact hd)) (by rw [put_size]; exact hn)
    have app : ∀ {fs cs : List V} {first cap : Array Value}, first.size = fs.length → cap.size = cs.length → (∀ i (hi : i < fs.length) (hi' : i < first.size), RelV w Pr p st.os fs[i] first[i]) → (∀ i (hi : i < cs.length) (hi' : i < cap.size), RelV w Pr p st.os cs[i] cap[i]) →
        ∃ hl : (first ++ args.map a.eval ++ cap).size = (fs ++ args.toList.map (ev st.env) ++ cs).length, ∀ i (hi : i < (fs ++ args.toList.map (ev st.env) ++ cs).length), RelV w Pr p st.os (fs ++ args.toList.map (ev st.env) ++ cs)[i] ((first ++ args.map a.eval ++ cap)[i]'(by omega)) := by
      intro fs cs first cap e1 e2 r1 r2
      refine ⟨by simp [e1, e2], fun i hi => ?_⟩
      simp only [List.getElem_append, Array.getElem_append, List.length_append, List.length_map, Array.length_toList, Array.size_append, Array.size_map, List.getElem_map, Array.getElem_map, Array.getElem_toList]
      simp only [e1]
      split
      · split
        · exact r1 _ _ _
        · exact evalR hE _
      · exact r2 _ _ _
    split at h
    · rename_i n x y he
      rw [he] at hf
      generalize hav : a.eval f = av at hf
      cases hf with
      | d hd => cases hd with
        | fn _ _ _ vf vc hs1 hs2 hr1 hr2 =>
          obtain ⟨hl, hr⟩ := app (fs := x.map .d) (cs := y.map .d) (first := vf) (cap := vc) (by simpa using hs1) (by simpa using hs2) (fun i hi hi' => by simp at hi ⊢; exact .d (hr1 i hi)) (fun i hi hi' => by simp at hi ⊢; exact .d (hr2 i hi))
          exact key hav hl hr h
    · rename_i n x y he
      rw [he] at hf
      generalize hav : a.eval f = av at hf
      cases hf with
      | fn hs1 hs2 hr1 hr2 =>
        obtain ⟨hl, hr⟩ := app hs1 hs2 (fun i hi hi' => hr1 i hi) (fun i hi hi' => hr2 i hi)
        exact key hav hl hr h
    · exact h.elim
  · rcases h with h | h
    · exact fin h
    · exact fin0 (out_nilT hI.mem hE h)
  · rcases h with h | h
    · exact fin h
    · exact fin0 (out_treeBuild hI.mem hE hnF h)
  · rcases h with h | h
    · exact fin h
    · exact fin0 (out_treeAppend hI.mem hE h)
  · exact fin h

theorem guard_sound {g : Ghost} {st : St} {a : Act} {w : World} {all : Array Oper} {o : Oper} {run skip : Prop} (hR : Rel g st a w) (h : guardK all o st run skip) :
    (Region.wanted o (yielded all a.tmps) = true ∧ run) ∨ (Region.wanted o (yielded all a.tmps) = false ∧ skip) := by
  obtain ⟨⟨Pr, p, hI, hE⟩, _⟩ := hR
  unfold guardK at h
  unfold Region.wanted
  split at h
  · rename_i hg; rw [hg]; exact .inl ⟨rfl, h⟩
  · rename_i j want hg
    rw [hg]
    simp only
    split at h
    · rename_i t ht
      have hx := hE t
      have hy : yielded all a.tmps j = match a.tmps[t]? with | some (.bool b) => some b | _ => none := by
        unfold yielded; rw [ht]; rfl
      have hgd : a.tmps.getD t undef = (a.tmps[t]?).getD undef := Array.getD_eq_getD_getElem? ..
      split at h
      · rename_i b hb
        rw [hb] at hx
        have hv := hx.bool
        rw [hgd] at hv
        have hsome : a.tmps[t]? = some (.bool b) := by
          cases h9 : a.tmps[t]? with
          | none => rw [h9] at hv; simp [undef] at hv
          | some v => rw [h9] at hv; simp at hv; rw [hv]
        rw [hy, hsome]
        by_cases hbw : b = want
        · subst hbw; exact .inl ⟨by simp, h.1 rfl⟩
        · have : b = !want := by cases b <;> cases want <;> simp_all
          exact .inr ⟨by simpa using hbw, h.2 this⟩
      · rename_i b hb
        rw [hb] at hx
        have hv := hx.val
        rw [hgd] at hv
        have hnone : yielded all a.tmps j = none := by
          rw [hy]
          cases h9 : a.tmps[t]? with
          | none => rfl
          | some v => rw [h9] at hv; simp at hv; rw [hv]
        rw [hnone]
        exact .inr ⟨by simp, h⟩
      · exact h.elim
    · exact h.elim

theorem Rel.undef {g : Ghost} {st : St} {a : Act} {w : World} {o : Oper} (hR : Rel g st a w) (hd : dOk a.tmps.size o = true) : Rel g (st.put o.dst undefV) (a.put o.dst undef) w := by
  obtain ⟨⟨Pr, p, hI, hE⟩, h0⟩ := hR
  exact ⟨⟨Pr, p, by rw [put_os]; exact hI, hE.put (.d (.val _)) hd⟩, by rw [put_defers]; exact h0⟩

theorem opsK_sound {ro : Option Nat} {m : Nat} {nF nt : Nat} {g : Ghost} {all : Array Oper} {K : St → Prop} {Q : Exit → Act → World → Prop} (hC : ∀ f a os r os', C f a os r os' → Says P gl f a os r os') (hg : g.os0.length = nF) (hG : GOk gl g.w0 g.Pr0 g.p0 g.os0)
    (hd : ∀ o ∈ all, dOk nt o = true) (hK : ∀ s a' w', K s → Rel g s a' w' → a'.tmps.size = nt → Q .normal a' w') :
    ∀ (k i : Nat) (st : St) (a : Act) (w : World), i + k = all.size → Rel g st a w → a.tmps.size = nt → opsK T C nF all (all.toList.drop i) st K → wpOpsIn (FR ro) m P all Q (List.range' i k) a w
  | 0, i, st, a, w, hik, hR, hn, h => by
    rw [List.drop_eq_nil_of_le (by simp; omega)] at h
    exact hK st a w h hR hn
  | k + 1, i, st, a, w, hik, hR, hn, h => by
    have hi : i < all.toList.length := by simp; omega
    have ho : all[i]? = some all.toList[i] := by simp [show i < all.size by omega]
    rw [List.drop_eq_getElem_cons hi] at h
    simp only [opsK] at h
    rw [List.range'_succ, wpOpsIn, ho]
    simp only
    have hdo : dOk nt all.toList[i] = true := hd _ (by rw [← Array.mem_toList_iff]; exact List.getElem_mem hi)
    rcases guard_sound hR h with ⟨h1, h2⟩ | ⟨h1, h2⟩
    · rw [if_pos h1]
      exact (op1_sound hC hg hG hR hn hdo h2 fun s a' w' h3 h4 h5 => opsK_sound hC hg hG hd hK k (i + 1) s a' w' (by omega) h4 h5 h3)
    · rw [if_neg (by rw [h1]; simp)]
      refine ⟨fun _ _ => trivial, ?_⟩
      exact opsK_sound hC hg hG hd hK k (i + 1) _ _ w (by omega) (hR.undef (by rw [hn]; exact hdo)) (by rw [put_size]; exact hn) h2

end
end Go.PL

/- PlQuiet -/
namespace Go.PL
open Go

theorem eqneK_det {op : BinOp} {t : Bool} {K : V → Prop} (h : eqneK op t K) : ∃ v, K v ∧ ∀ K2 : V → Prop, K2 v → eqneK op t K2 := by
  rcases eqneK_cases h with ⟨rfl, h3⟩ | ⟨rfl, h3⟩ <;> exact ⟨_, h3, fun K2 h2 => h2⟩

theorem binK_det {k : TK} {op : BinOp} {x y : V} {K : V → Prop} (h : binK k op x y K) : ∃ v, K v ∧ ∀ K2 : V → Prop, K2 v → binK k op x y K2 := by
  unfold binK at h ⊢
  split at h
  · split at h
    · unfold optK at h ⊢
      split at h
      · exact eqneK_det h
      · exact h.elim
    · exact h.elim
  · split at h
    · obtain ⟨rfl, h⟩ := h
      cases op
      case quo => exact ⟨_, h.2, fun K2 h2 => ⟨rfl, h.1, h2⟩⟩
      case rem => exact ⟨_, h.2, fun K2 h2 => ⟨rfl, h.1, h2⟩⟩
      all_goals (first | exact ⟨_, h, fun K2 h2 => ⟨rfl, h2⟩⟩ | exact h.elim)
    · exact h.elim
  · split at h
    · cases op
      case add => exact ⟨_, h.2, fun K2 h2 => ⟨h.1, h2⟩⟩
      all_goals (first | exact ⟨_, h, fun K2 h2 => h2⟩ | exact h.elim)
    · exact h.elim
  · split at h
    · obtain ⟨v, h3, h4⟩ := eqneK_det h.2
      exact ⟨v, h3, fun K2 h2 => ⟨h.1, h4 K2 h2⟩⟩
    · exact h.elim
  · obtain ⟨v, h3, h4⟩ := eqneK_det h.2.2
    exact ⟨v, h3, fun K2 h2 => ⟨h.1, h.2.1, h4 K2 h2⟩⟩
  · obtain ⟨v, h3, h4⟩ := eqneK_det h.2.2.2
    exact ⟨v, h3, fun K2 h2 => ⟨h.1, h.2.1, h.2.2.1, h4 K2 h2⟩⟩
  · obtain ⟨v, h3, h4⟩ := eqneK_det h.2.2.2
    exact ⟨v, h3, fun K2 h2 => ⟨h.1, h.2.1, h.2.2.1, h4 K2 h2⟩⟩
  · exact h.elim

theorem boundsK_det {n : Nat} {lo hi : Option V} {F : Nat → Nat → Prop} (h : boundsK n lo hi F) : ∃ l h', F l h' ∧ ∀ F2 : Nat → Nat → Prop, F2 l h' → boundsK n lo hi F2 := by
  unfold boundsK at h
  split at h
  · rename_i l hh e1 e2
    exact ⟨_, _, h.2.2.2, fun F2 h2 => by unfold boundsK; rw [e1, e2]; exact ⟨h.1, h.2.1, h.2.2.1, h2⟩⟩
  · exact h.elim
theorem sliceK_det {n : Nat} {os : List Ob} {x : V} {lo hi : Option V} {K : V → Prop} (h : sliceK n os x lo hi K) : ∃ v, K v ∧ ∀ K2 : V → Prop, K2 v → sliceK n os x lo hi K2 := by
  unfold sliceK at h
  split at h
  · obtain ⟨l, h', h1, h2⟩ := boundsK_det h
    exact ⟨_, h1.2, fun K2 h3 => by unfold sliceK; exact h2 _ ⟨h1.1, h3⟩⟩
  · obtain ⟨l, h', h1, h2⟩ := boundsK_det h
    exact ⟨_, h1, fun K2 h3 => by unfold sliceK; exact h2 _ h3⟩
  · obtain ⟨l, h', h1, h2⟩ := boundsK_det h
    exact ⟨_, h1.2, fun K2 h3 => by unfold sliceK; exact h2 _ ⟨h1.1, h3⟩⟩
  · exact h.elim
theorem sliceStrK_det {x : V} {lo hi : Option V} {K : V → Prop} (h : sliceStrK x lo hi K) : ∃ v, K v ∧ ∀ K2 : V → Prop, K2 v → sliceStrK x lo hi K2 := by
  unfold sliceStrK at h
  split at h
  · obtain ⟨l, h', h1, h2⟩ := boundsK_det h
    exact ⟨_, h1, fun K2 h3 => by unfold sliceStrK; exact h2 _ h3⟩
  · exact h.elim
theorem loadK_det {i : TI} {st st2 : St} (e : st2.os = st.os) {x : V} {K : V → Prop} (h : loadK i st x K) : ∃ v, K v ∧ ∀ K2 : V → Prop, K2 v → loadK i st2 x K2 := by
  unfold loadK at h
  split at h
  · split at h
    · rename_i ho; exact ⟨_, h.2.2, fun K2 h2 => by unfold loadK; simp only [e, ho]; exact ⟨h.1, h.2.1, h2⟩⟩
    · rename_i ho; exact ⟨_, h.2.2, fun K2 h2 => by unfold loadK; simp only [e, ho]; exact ⟨h.1, h.2.1, h2⟩⟩
    · rename_i ho; exact ⟨_, h.2.2.2, fun K2 h2 => by unfold loadK; simp only [e, ho]; exact ⟨h.1, h.2.1, h.2.2.1, h2⟩⟩
    · exact h.elim
  · exact ⟨_, h.2, fun K2 h2 => by unfold loadK; exact ⟨h.1, h2⟩⟩
  · exact h.elim
theorem bytesK_det {e : TK} {es : Option (List D)} {K : V → Prop} (h : bytesK e es K) : ∃ v, K v ∧ ∀ K2 : V → Prop, K2 v → bytesK e es K2 := by
  unfold bytesK at h
  split at h
  · split at h
    · rename_i hn; exact ⟨_, h, fun K2 h2 => by unfold bytesK; simp only [hn]; exact h2⟩
    · exact h.elim
  · exact h.elim
theorem indexK_det {n : Nat} {os : List Ob} {x : V} {ix : Int} {K : V → Prop} (h : indexK n os x ix K) : ∃ v, K v ∧ ∀ K2 : V → Prop, K2 v → indexK n os x ix K2 := by
  unfold indexK at h
  split at h
  · exact ⟨_, h.2.2.2, fun K2 h2 => ⟨h.1, h.2.1, h.2.2.1, h2⟩⟩
  · exact ⟨_, h.2.2.2, fun K2 h2 => ⟨h.1, h.2.1, h.2.2.1, h2⟩⟩
  · exact h.elim

theorem map_ev {env env2 : List (Nat × V)} {lo : Option Operand} (h : ∀ x ∈ lo, ev env2 x = ev env x) : lo.map (ev env2) = lo.map (ev env) := by
  cases lo with
  | none => rfl
  | some x => simp [h x (by simp)]

theorem evg_congr {T : Tab} {env env2 : List (Nat × V)} {x : Operand} (h : ev env2 x = ev env x) : evg T env2 x = evg T env x := by cases x <;> first | exact h | rfl
/-- An operation that leaves objects alone has one value, which hangs on its operands alone. -/
theorem quiet_det {T : Tab} {nF : Nat} {os : List Ob} {env : List (Nat × V)} {op : Op} {K : V → Prop} (hq : quietOp op = true) (h : opK T nF ⟨env, os⟩ op (fun v _ => K v)) :
    ∃ v, K v ∧ ∀ env2, (∀ x ∈ op.operands.toList, ev env2 x = ev env x) → ∀ K2 : V → St → Prop, K2 v ⟨env2, os⟩ → opK T nF ⟨env2, os⟩ op K2 := by
  cases op with
  | move x => exact ⟨_, by simpa only [opK] using h, fun env2 he K2 h2 => by simp only [opK]; rw [he x (by simp [Op.operands])]; exact h2⟩
  | assign x => exact ⟨_, by simpa only [opK] using h, fun env2 he K2 h2 => by simp only [opK]; rw [he x (by simp [Op.operands])]; exact h2⟩
  | pick c x y =>
    simp only [opK] at h
    split at h
    · rename_i t ht
      refine ⟨_, h, fun env2 he K2 h2 => ?_⟩
      simp only [opK]
      rw [he c (by simp [Op.operands]), he x (by simp [Op.operands]), he y (by simp [Op.operands]), ht]
      exact h2
    · exact h.elim
  | load t x =>
    simp only [opK] at h
    split at h
    · rename_i i hi
      obtain ⟨v, h1, h2⟩ := loadK_det (st2 := ⟨env, os⟩) rfl h
      refine ⟨v, h1, fun env2 he K2 h3 => ?_⟩
      obtain ⟨v', h1', h2'⟩ := loadK_det (st := ⟨env, os⟩) (st2 := ⟨env2, os⟩) (x := evg T env x) (K := fun u => u = v) rfl (h2 (fun u => u = v) rfl)
      subst h1'
      simp only [opK, hi]
      rw [evg_congr (he x (by simp [Op.operands]))]
      exact h2' _ h3
    · exact h.elim
  | nilCheck x =>
    simp only [opK] at h
    split at h
    all_goals first
      | exact h.elim
      | (rename_i ee; exact ⟨_, h, fun env2 he K2 h2 => by simp only [opK]; rw [he x (by simp [Op.operands]), ee]; exact h2⟩)
  | binOp op t x y yt =>
    simp only [opK] at h
    obtain ⟨v, h1, h2⟩ := binK_det h
    refine ⟨v, h1, fun env2 he K2 h3 => ?_⟩
    simp only [opK]
    rw [he x (by simp [Op.operands]), he y (by simp [Op.operands])]
    exact h2 _ h3
  | unOp op t x =>
    cases op <;> simp only [opK] at h
    all_goals
      split at h
      · rename_i ee
        exact ⟨_, h, fun env2 he K2 h2 => by simp only [opK]; rw [he x (by simp [Op.operands]), ee]; exact h2⟩
      · exact h.elim
  | convert s t x =>
    simp only [opK] at h
    split at h
    all_goals first
      | exact h.elim
      | (rename_i e1 e2 ee; exact ⟨_, h, fun env2 he K2 h2 => by simp only [opK]; rw [he x (by simp [Op.operands]), ee, e1, e2]; exact h2⟩)
      | (rename_i e1 e2; obtain ⟨v, h1, h2⟩ := bytesK_det h; exact ⟨v, h1, fun env2 he K2 h3 => by simp only [opK]; rw [he x (by simp [Op.operands]), e1, e2]; exact h2 _ h3⟩)
  | makeFunc f x y =>
    refine ⟨_, by simpa only [opK] using h, fun env2 he K2 h2 => ?_⟩
    simp only [opK]
    have e1 : x.toList.map (ev env2) = x.toList.map (ev env) := List.map_congr_left fun z hz => he z (by simp [Op.operands]; exact .inl (by simpa using hz))
    have e2 : y.toList.map (ev env2) = y.toList.map (ev env) := List.map_congr_left fun z hz => he z (by simp [Op.operands]; exact .inr (by simpa using hz))
    rw [e1, e2]
    exact h2
  | slice t x lo hi mx =>
    cases mx with
    | some m => simp only [opK] at h
    | none =>
      have hop : (Op.slice t x lo hi none).operands.toList = x :: (lo.toList ++ hi.toList) := by simp [Op.operands]
      simp only [opK] at h
      split at h
      · rename_i ht
        obtain ⟨v, h1, h2⟩ := sliceStrK_det h
        refine ⟨v, h1, fun env2 he K2 h3 => ?_⟩
        simp only [opK, ht]
        rw [he x (by rw [hop]; simp), map_ev (fun z hz => he z (by rw [hop]; simp at hz; simp [hz])), map_ev (lo := hi) (fun z hz => he z (by rw [hop]; simp at hz; simp [hz]))]
        exact h2 _ h3
      · rename_i e ht
        split at h
        · rename_i i hi2
          obtain ⟨v, h1, h2⟩ := sliceK_det h
          refine ⟨v, h1, fun env2 he K2 h3 => ?_⟩
          simp only [opK, ht, hi2]
          rw [he x (by rw [hop]; simp), map_ev (fun z hz => he z (by rw [hop]; simp at hz; simp [hz])), map_ev (lo := hi) (fun z hz => he z (by rw [hop]; simp at hz; simp [hz]))]
          exact h2 _ h3
        · exact h.elim
      · exact h.elim
  | fieldAddr s x f =>
    simp only [opK] at h
    split at h
    · rename_i fs ht
      split at h
      · rename_i hf ee
        exact ⟨_, h.2, fun env2 he K2 h2 => by simp only [opK, ht]; rw [he x (by simp [Op.operands]), hf, ee]; exact ⟨h.1, h2⟩⟩
      · rename_i hf ee
        exact ⟨_, h.2, fun env2 he K2 h2 => by simp only [opK, ht]; rw [he x (by simp [Op.operands]), hf, ee]; exact ⟨h.1, h2⟩⟩
      · exact h.elim
    · exact h.elim
  | field s x f =>
    simp only [opK] at h
    split at h
    · rename_i fs ht
      split at h
      · rename_i hf
        obtain ⟨h1, h2, h3, h4⟩ := h
        exact ⟨_, h4, fun env2 he K2 h5 => by simp only [opK, ht, hf]; rw [he x (by simp [Op.operands])]; exact ⟨h1, h2, h3, h5⟩⟩
      · exact h.elim
    · exact h.elim
  | indexAddr t x ix =>
    simp only [opK] at h
    split at h
    · rename_i e n ht hv
      split at h
      · rename_i i hi
        obtain ⟨v, h1, h2⟩ := indexK_det h
        refine ⟨v, h1, fun env2 he K2 h3 => ?_⟩
        simp only [opK, ht]
        rw [he x (by simp [Op.operands]), he ix (by simp [Op.operands]), hv]
        simp only [hi]
        exact h2 _ h3
      · exact h.elim
    · exact h.elim
  | index t x ix =>
    simp only [opK] at h
    split at h
    · rename_i s n ht ee hv
      obtain ⟨h1, h2, h3⟩ := h
      refine ⟨_, h3, fun env2 he K2 h4 => ?_⟩
      simp only [opK, ht]
      rw [he x (by simp [Op.operands]), he ix (by simp [Op.operands]), ee, hv]
      exact ⟨h1, h2, h4⟩
    · exact h.elim
  | extract x i =>
    simp only [opK] at h
    split at h
    · rename_i vs ee
      exact ⟨_, h.2, fun env2 he K2 h2 => by simp only [opK]; rw [he x (by simp [Op.operands]), ee]; exact ⟨h.1, h2⟩⟩
    · exact h.elim
  | build t parts =>
    simp only [opK] at h
    split at h
    · rename_i i hi
      split at h
      · rename_i fs hk
        split at h
        · rename_i cs hf
          refine ⟨_, h, fun env2 he K2 h2 => ?_⟩
          have e1 : (parts.toList.map fun x => (x.1, ev env2 x.2)) = parts.toList.map fun x => (x.1, ev env x.2) :=
            List.map_congr_left fun z hz => by rw [he z.2 (by simp [Op.operands]; exact ⟨z.1, by simpa using hz⟩)]
          simp only [opK, hi, hk, e1, hf]
          exact h2
        · exact h.elim
      · exact h.elim
    · exact h.elim
  | call c =>
    obtain ⟨callee, args, ats⟩ := c
    have hop : ∀ b, (Op.call { callee := .builtin b, args, argTypes := ats }).operands.toList = args.toList := fun b => by simp [Op.operands, Call.operands]
    cases callee with
    | builtin b =>
      cases b <;> first
        | (simp [quietOp] at hq; done)
        | skip
      all_goals
        simp only [opK] at h
        split at h
      · rename_i t x h1 h2
        split at h
        all_goals first
          | exact h.elim
          | (rename_i e1 e2; exact ⟨_, h, fun env2 he K2 h3 => by simp only [opK, h1, h2, e1]; rw [he x (by rw [hop, h2]; simp), e2]; exact h3⟩)
      · exact h.elim
      · rename_i x y h2
        split at h
        · rename_i e1 e2
          exact ⟨_, h, fun env2 he K2 h3 => by simp only [opK, h2]; rw [he x (by rw [hop, h2]; simp), he y (by rw [hop, h2]; simp), e1, e2]; exact h3⟩
        · exact h.elim
      · exact h.elim
      · rename_i x y h2
        split at h
        · rename_i e1 e2
          exact ⟨_, h, fun env2 he K2 h3 => by simp only [opK, h2]; rw [he x (by rw [hop, h2]; simp), he y (by rw [hop, h2]; simp), e1, e2]; exact h3⟩
        · exact h.elim
      · exact h.elim
    | _ => simp [quietOp] at hq
  | _ => simp [quietOp] at hq

end Go.PL

/- PlDraw -/
namespace Go.PL
open Go

section
variable {P : Program} {T : Tab} [TOk T P] {C : Call}

/-- What an operation of a region that draws its order comes to: a value that hangs on its operands alone, or nothing. -/
def Yields (T : Tab) (C : Call) (nF : Nat) (all : Array Oper) (os : List Ob) (env : List (Nat × V)) (o : Oper) (v : V) : Prop :=
  ∀ env2, (∀ t ∈ readTmps all o, look env2 t = look env t) →
    guardK all o ⟨env2, os⟩ (∀ K : V → St → Prop, K v ⟨env2, os⟩ → (match o.op with
      | .call { callee := .value f, args, .. } => calleeK ⟨env2, os⟩ f args.toList fun n vs => callK C ⟨env2, os⟩ n vs K
      | op => opK T nF ⟨env2, os⟩ op K)) (v = undefV)

theorem ev_of_tmps {all : Array Oper} {o : Oper} {env env2 : List (Nat × V)} (h : ∀ t ∈ readTmps all o, look env2 t = look env t) : ∀ x ∈ o.op.operands.toList, ev env2 x = ev env x := by
  intro x hx
  cases x with
  | tmp t =>
    refine h t ?_
    unfold readTmps
    refine List.mem_append_left _ ?_
    exact List.mem_filterMap.2 ⟨_, hx, rfl⟩
  | _ => rfl

theorem guard_congr {all : Array Oper} {o : Oper} {env env2 : List (Nat × V)} {os : List Ob} (h : ∀ t ∈ readTmps all o, look env2 t = look env t) {r s r' s' : Prop} (hr : r → r') (hs : s → s') (hg : guardK all o ⟨env, os⟩ r s) : guardK all o ⟨env2, os⟩ r' s' := by
  unfold guardK at *
  split at hg
  · rename_i e; exact hr hg
  · rename_i j want e
    split at hg
    · rename_i t ht
      have : look env2 t = look env t := h t (by
        unfold readTmps
        rw [e]
        simp only
        rw [ht]
        simp)
      simp only [this]
      split at hg
      · rename_i b hb
        rw [hb]
        exact ⟨fun x => hr (hg.1 x), fun x => hs (hg.2 x)⟩
      · rename_i b hb
        rw [hb]
        exact hs hg
      · exact hg.elim
    · exact hg.elim

theorem guard_cases {all : Array Oper} {o : Oper} {st : St} {r s : Prop} (hg : guardK all o st r s) : r ∨ s := by
  unfold guardK at hg
  split at hg
  · exact .inl hg
  · rename_i j want e
    split at hg
    · split at hg
      · rename_i b hb
        by_cases h : b = want
        · exact .inl (hg.1 h)
        · exact .inr (hg.2 (by cases b <;> cases want <;> simp_all))
      · exact .inr hg
      · exact hg.elim
    · exact hg.elim

/-- From the walk in the text's order: what each operation yields. -/
theorem yields_of {nF : Nat} {all : Array Oper} {os : List Ob} {o : Oper} {env : List (Nat × V)} {K1 : St → Prop} {K2 : Prop} (h : guardK all o ⟨env, os⟩ (quiet1K T C nF o ⟨env, os⟩ K1) K2) :
    ∃ v, Yields T C nF all os env o v ∧ (K1 (St.put ⟨env, os⟩ o.dst v) ∨ (v = undefV ∧ K2)) := by
  -- either it is run or it is not; which, the guard tells by what is known
  have run : quiet1K T C nF o ⟨env, os⟩ K1 → ∃ v, K1 (St.put ⟨env, os⟩ o.dst v) ∧ ∀ env2, (∀ t ∈ readTmps all o, look env2 t = look env t) → ∀ K : V → St → Prop, K v ⟨env2, os⟩ → (match o.op with
      | .call { callee := .value f, args, .. } => calleeK ⟨env2, os⟩ f args.toList fun n vs => callK C ⟨env2, os⟩ n vs K
      | op => opK T nF ⟨env2, os⟩ op K) := by
    clear h
    intro h
    obtain ⟨dst, op, type, pos, after, guard⟩ := o
    unfold quiet1K at h
    simp only at h
    split at h
    · rename_i f args ats
      have hev : ∀ env2, (∀ t ∈ readTmps all ⟨dst, .call { callee := .value f, args, argTypes := ats }, type, pos, after, guard⟩, look env2 t = look env t) → ev env2 f = ev env f ∧ args.toList.map (ev env2) = args.toList.map (ev env) := by
        intro env2 he
        have h1 := ev_of_tmps he
        simp only [Op.operands, Call.operands] at h1
        exact ⟨h1 f (by simp), List.map_congr_left fun z hz => h1 z (by simp; exact .inr (by simpa using hz))⟩
      unfold calleeK at h
      simp only at h
      split at h
      · rename_i n x y ee
        obtain ⟨ds, l, r, q1, q2, q3, q4⟩ := h
        refine ⟨_, q4, fun env2 he K hK => ?_⟩
        obtain ⟨e1, e2⟩ := hev env2 he
        simp only [calleeK]
        rw [e1, e2, ee]
        refine .inl ⟨ds, l, r, [], q1, q2, rfl, ?_⟩
        rcases q3 with q3 | q3
        · rw [if_pos ⟨q3, rfl⟩]; exact hK
        · subst q3; simp only [freeze, List.append_nil, ite_self]; exact hK
      · rename_i n x y ee
        obtain ⟨ds, l, r, q1, q2, q3, q4⟩ := h
        refine ⟨_, q4, fun env2 he K hK => ?_⟩
        obtain ⟨e1, e2⟩ := hev env2 he
        simp only [calleeK]
        rw [e1, e2, ee]
        refine .inl ⟨ds, l, r, [], q1, q2, rfl, ?_⟩
        rcases q3 with q3 | q3
        · rw [if_pos ⟨q3, rfl⟩]; exact hK
        · subst q3; simp only [freeze, List.append_nil, ite_self]; exact hK
      · exact h.elim
    · rename_i hne
      obtain ⟨h1, h2⟩ := h
      obtain ⟨v, k1, k2⟩ := quiet_det (K := fun v => K1 (St.put ⟨env, os⟩ dst v)) h1 h2
      refine ⟨v, k1, fun env2 he K hK => ?_⟩
      have := k2 env2 (ev_of_tmps he) K hK
      split
      · exact (hne _ _ _ ‹_›).elim
      · exact this
  unfold guardK at h
  split at h
  · rename_i e
    obtain ⟨v, h1, h2⟩ := run h
    exact ⟨v, fun env2 he => guard_congr (r := True) (s := v = undefV) he (fun _ => h2 env2 he) (fun x => x) (by unfold guardK; rw [e]; trivial), .inl h1⟩
  · rename_i j want e
    split at h
    · rename_i t ht
      split at h
      · rename_i b hb
        by_cases hbw : b = want
        · obtain ⟨v, h1, h2⟩ := run (h.1 hbw)
          refine ⟨v, fun env2 he => guard_congr (r := True) (s := v = undefV) he (fun _ => h2 env2 he) (fun x => x) ?_, .inl h1⟩
          unfold guardK; rw [e]; simp only [ht, hb]
          exact ⟨fun _ => trivial, fun x => by subst hbw; cases b <;> simp at x⟩
        · refine ⟨undefV, fun env2 he => guard_congr (r := False) (s := True) he (fun x => x.elim) (fun _ => rfl) ?_, .inr ⟨rfl, h.2 (by cases b <;> cases want <;> simp_all)⟩⟩
          unfold guardK; rw [e]; simp only [ht, hb]
          exact ⟨fun x => hbw x, fun _ => trivial⟩
      · rename_i b hb
        refine ⟨undefV, fun env2 he => guard_congr (r := False) (s := True) he (fun x => x.elim) (fun _ => rfl) ?_, .inr ⟨rfl, h⟩⟩
        unfold guardK; rw [e]; simp only [ht, hb]
      · exact h.elim
    · exact h.elim

/-- The frame when the operations of a set have come up, whatever the order. -/
def envL (all : Array Oper) (vs : Nat → V) (env : List (Nat × V)) (S : Nat → Bool) : Nat → List (Nat × V)
  | 0 => env
  | n + 1 => match S n, (all[n]?).bind (·.dst) with
    | true, some t => (t, vs n) :: envL all vs env S n
    | _, _ => envL all vs env S n

/-- The last of a set that writes a place. -/
theorem look_envL {all : Array Oper} {vs : Nat → V} {env : List (Nat × V)} {S S' : Nat → Bool} {t : Nat} : ∀ n, (∀ i, i < n → (all[i]?).bind (·.dst) = some t → S i = S' i) → look (envL all vs env S n) t = look (envL all vs env S' n) t
  | 0, _ => rfl
  | n + 1, h => by
    have ih := look_envL (vs := vs) (env := env) n (fun i hi => h i (by omega))
    simp only [envL]
    cases hd : (all[n]?).bind (·.dst) with
    | none => cases S n <;> cases S' n <;> exact ih
    | some k =>
      by_cases hk : k = t
      · subst hk
        rw [h n (by omega) hd]
        cases S' n
        · exact ih
        · simp [look, Nat.beq_refl]
      · have hb : Nat.beq k t = false := by cases hb : Nat.beq k t with | false => rfl | true => exact absurd (Nat.eq_of_beq_eq_true hb) hk
        cases S n <;> cases S' n <;> simp only [look, hb, cond_false] <;> exact ih

end
end Go.PL

/- PlDraw2 -/
namespace Go.PL
open Go

section
variable {P : Program} {T : Tab} [TOk T P] {C : Call} {gl : GL} [TG T gl]

theorem wanted_iff {g : Ghost} {st : St} {a : Act} {w : World} {all : Array Oper} {o : Oper} {run skip : Prop} (hR : Rel g st a w) (h : guardK all o st run skip) :
    (Region.wanted o (yielded all a.tmps) = true ∧ run) ∨ (Region.wanted o (yielded all a.tmps) = false ∧ skip) := guard_sound hR h

/-- An operation of a region, whatever has come up before it. -/
theorem yield_sound {ro : Option Nat} {m : Nat} {nF nt : Nat} {g : Ghost} {all : Array Oper} {os : List Ob} {env env2 : List (Nat × V)} {a : Act} {w : World} {o : Oper} {i : Nat} {v : V} {next : Act → World → Prop} {Q : Exit → Act → World → Prop}
    (hC : ∀ f a os r os', C f a os r os' → Says P gl f a os r os') (hg : g.os0.length = nF) (hG : GOk gl g.w0 g.Pr0 g.p0 g.os0) (hi : all[i]? = some o) (hR : Rel g ⟨env2, os⟩ a w) (hn : a.tmps.size = nt) (hd : dOk nt o = true)
    (hy : Yields T C nF all os env o v) (he : ∀ t ∈ readTmps all o, look env2 t = look env t)
    (hK : ∀ a' w', Rel g (St.put ⟨env2, os⟩ o.dst v) a' w' → a'.tmps.size = nt → next a' w') : wpOpIn (FR ro) m P all Q i next a w := by
  unfold wpOpIn
  rw [hi]
  simp only
  rcases guard_sound hR (hy env2 he) with ⟨h1, h2⟩ | ⟨h1, h2⟩
  · rw [if_pos h1]
    refine (op1_sound (T := T) (K := fun s => s = St.put ⟨env2, os⟩ o.dst v) hC hg hG hR hn hd ?_ fun s a' w' h3 h4 h5 => hK a' w' (h3 ▸ h4) h5)
    have := h2 (fun v' s => s.put o.dst v' = St.put ⟨env2, os⟩ o.dst v) rfl
    obtain ⟨dst, op, ty, pos, after, gd⟩ := o
    cases op with
    | binOp op t x y t2 => exact .inl this
    | buildSlice t len parts => exact .inl this
    | call c =>
      obtain ⟨ce, args, ats⟩ := c
      cases ce with
      | builtin b => cases b <;> first | exact this | exact .inl this
      | value f => exact this
      | invoke r m => exact this
    | _ => exact this
  · rw [if_neg (by rw [h1]; simp)]
    subst h2
    refine ⟨fun _ _ => trivial, ?_⟩
    exact hK _ w (hR.undef (by rw [hn]; exact hd)) (by rw [put_size]; exact hn)

theorem waits_listed {all : Array Oper} {listed : Nat → Bool} (hcl : ∀ j o, listed j = true → all[j]? = some o → ∀ e ∈ o.after, Region.binds .any e = true → listed e.on = true) :
    ∀ (k j i : Nat), listed j = true → i ∈ waits all k j → listed i = true
  | 0, j, i, _, h => by simp [waits] at h
  | k + 1, j, i, hj, h => by
    unfold waits at h
    cases ho : all[j]? with
    | none => rw [ho] at h; simp at h
    | some o =>
      rw [ho] at h
      simp only [Option.map_some, Option.getD_some, List.mem_flatMap] at h
      obtain ⟨e, he, h⟩ := h
      split at h
      · rename_i hb
        have h1 := hcl j o hj ho e (by simpa using he) hb
        rcases List.mem_cons.1 h with rfl | h
        · exact h1
        · exact waits_listed hcl k e.on i h1 h
      · simp at h

theorem waits_ready {all : Array Oper} {listed : Nat → Bool} (hcl : ∀ j o, listed j = true → all[j]? = some o → ∀ e ∈ o.after, Region.binds .any e = true → listed e.on = true)
    {j : Nat} {o : Oper} (ho : all[j]? = some o) (hr : ∀ e ∈ o.after, Region.binds .any e = true → listed e.on = true) {k i : Nat} (h : i ∈ waits all k j) : listed i = true := by
  cases k with
  | zero => simp [waits] at h
  | succ k =>
    unfold waits at h
    rw [ho] at h
    simp only [Option.map_some, Option.getD_some, List.mem_flatMap] at h
    obtain ⟨e, he, h⟩ := h
    split at h
    · rename_i hb
      have h1 := hr e (by simpa using he) hb
      rcases List.mem_cons.1 h with rfl | h
      · exact h1
      · exact waits_listed hcl k e.on i h1 h
    · simp at h

/-- What the check says. -/
structure DrawFacts (all : Array Oper) (m : Nat) : Prop where
  le : m ≤ all.size
  back : ∀ j i, j < all.size → i ∈ waits all all.size j → i < j
  tail : ∀ j i, j < all.size → m ≤ j → i < j → i ∈ waits all all.size j
  apart : ∀ j i oj oi, j < m → i < j → all[i]? = some oi → all[j]? = some oj → i ∈ waits all all.size j ∨ ((∀ t, oi.dst = some t → t ∉ operTmps all oj) ∧ (∀ t, oj.dst = some t → t ∉ operTmps all oi))

theorem drawFacts {all : Array Oper} {m : Nat} (h : drawOk all m = true) : DrawFacts all m := by
  unfold drawOk at h
  simp only [Bool.and_eq_true, decide_eq_true_eq, List.all_eq_true, List.mem_range, Bool.or_eq_true, List.contains_iff_mem] at h
  obtain ⟨h1, h2⟩ := h
  refine ⟨h1, fun j i hj hi => (h2 j hj).1 i hi, fun j i hj hm hi => ?_, fun j i oj oi hj hi ho1 ho2 => ?_⟩
  · rcases (h2 j hj).2 i hi with h3 | h3
    · exact h3
    · omega
  · rcases (h2 j (by omega)).2 i hi with h3 | ⟨_, h3⟩
    · exact .inl h3
    · right
      rw [ho1, ho2] at h3
      simp only [Bool.and_eq_true, List.all_eq_true, Option.mem_toList, Bool.not_eq_true', List.contains_eq_mem, decide_eq_false_iff_not] at h3
      exact ⟨fun t ht => h3.1 t ht, fun t ht => h3.2 t ht⟩

theorem dst_mem {all : Array Oper} {o : Oper} {t : Nat} (h : o.dst = some t) : t ∈ operTmps all o := by
  unfold operTmps
  refine List.mem_append_left _ ?_
  simp [h]

end
end Go.PL

/- PlDraw3 -/
namespace Go.PL
open Go

section
variable {P : Program} {T : Tab} [TOk T P] {C : Call}

theorem envL_congr {all : Array Oper} {vs vs' : Nat → V} {env : List (Nat × V)} {S : Nat → Bool} : ∀ n, (∀ i, i < n → vs i = vs' i) → envL all vs env S n = envL all vs' env S n
  | 0, _ => rfl
  | n + 1, h => by
    simp only [envL]
    rw [envL_congr n fun i hi => h i (by omega), h n (by omega)]

theorem put_envL {all : Array Oper} {vs : Nat → V} {env : List (Nat × V)} {os : List Ob} {i : Nat} {o : Oper} (hi : all[i]? = some o) : St.put ⟨envL all vs env (fun _ => true) i, os⟩ o.dst (vs i) = ⟨envL all vs env (fun _ => true) (i + 1), os⟩ := by
  simp only [envL, hi, Option.bind_some]
  cases o.dst <;> rfl

/-- The values of the walk in the text's order. -/
theorem quiet_all {nF : Nat} {all : Array Oper} {os : List Ob} {env : List (Nat × V)} {m : Nat} (hm : m ≤ all.size) {K : St → Prop} : ∀ (d i : Nat) (vs : Nat → V), i + d = m →
    quietK T C nF all ((all.toList.drop i).take d) ⟨envL all vs env (fun _ => true) i, os⟩ K →
    ∃ vs', (∀ k, k < i → vs' k = vs k) ∧ (∀ k o, i ≤ k → k < m → all[k]? = some o → Yields T C nF all os (envL all vs' env (fun _ => true) k) o (vs' k)) ∧ K ⟨envL all vs' env (fun _ => true) m, os⟩
  | 0, i, vs, hi, h => by
    obtain rfl : i = m := by omega
    simp only [List.take_zero, quietK] at h
    exact ⟨vs, fun _ _ => rfl, fun k o h1 h2 => by omega, h⟩
  | d + 1, i, vs, hi, h => by
    have hlt : i < all.toList.length := by simp; omega
    have ho : all[i]? = some all.toList[i] := by simp [show i < all.size by omega]
    rw [List.drop_eq_getElem_cons hlt, List.take_succ_cons] at h
    simp only [quietK] at h
    obtain ⟨v, hy, hk⟩ := yields_of h
    let vs1 : Nat → V := fun k => if k = i then v else vs k
    have e1 : envL all vs1 env (fun _ => true) i = envL all vs env (fun _ => true) i := envL_congr i fun k hk => by simp [vs1]; omega
    have hv : vs1 i = v := by simp [vs1]
    have hput : St.put ⟨envL all vs env (fun _ => true) i, os⟩ all.toList[i].dst v = ⟨envL all vs1 env (fun _ => true) (i + 1), os⟩ := by
      rw [← e1, ← hv]; exact put_envL ho
    have hk' : quietK T C nF all ((all.toList.drop (i + 1)).take d) ⟨envL all vs1 env (fun _ => true) (i + 1), os⟩ K := by
      rcases hk with hk | ⟨rfl, hk⟩
      · rw [hput] at hk; exact hk
      · rw [hput] at hk; exact hk
    obtain ⟨vs', q1, q2, q3⟩ := quiet_all hm d (i + 1) vs1 (by omega) hk'
    refine ⟨vs', fun k hk => by rw [q1 k (by omega)]; simp [vs1]; omega, fun k o h1 h2 h3 => ?_, q3⟩
    by_cases hki : k = i
    · subst hki
      rw [ho] at h3; cases h3
      have e2 : envL all vs' env (fun _ => true) k = envL all vs env (fun _ => true) k := by
        rw [← e1]; exact envL_congr k fun j hj => q1 j (by omega)
      rw [e2, q1 k (by omega), hv]
      exact hy
    · exact q2 k o (by omega) h2 h3

theorem Rel.look {g : Ghost} {env env2 : List (Nat × V)} {os : List Ob} {a : Act} {w : World} (h : ∀ t, look env2 t = look env t) (hR : Rel g ⟨env, os⟩ a w) : Rel g ⟨env2, os⟩ a w := by
  obtain ⟨⟨Pr, p, h1, h2⟩, h0⟩ := hR
  exact ⟨⟨Pr, p, h1, fun t => by rw [h t]; exact h2 t⟩, h0⟩

theorem look_lt {all : Array Oper} {vs : Nat → V} {env : List (Nat × V)} {i : Nat} : ∀ (m : Nat), i ≤ m → envL all vs env (fun k => decide (k < i)) m = envL all vs env (fun _ => true) i
  | 0, h => by
    have : i = 0 := by omega
    subst this
    rfl
  | m + 1, h => by
    by_cases e : i = m + 1
    · subst e
      have : ∀ n, n ≤ m + 1 → envL all vs env (fun k => decide (k < m + 1)) n = envL all vs env (fun _ => true) n := by
        intro n
        induction n with
        | zero => intro _; rfl
        | succ n ih =>
          intro hn
          simp only [envL, ih (by omega)]
          simp [show n < m + 1 by omega]
      exact this _ (Nat.le_refl _)
    · simp only [envL]
      have : decide (m < i) = false := by simp; omega
      rw [this]
      exact look_lt m (by omega)

/-- One operation more has come up. -/
theorem look_ins {all : Array Oper} {vs : Nat → V} {env : List (Nat × V)} {S : Nat → Bool} {i : Nat} {o : Oper} (ho : all[i]? = some o) (hSi : S i = false) {os : List Ob} {s : Nat} : ∀ (m : Nat),
    (i < m → ∀ k, i < k → k < m → S k = true → ∀ ok, all[k]? = some ok → ∀ t, o.dst = some t → ok.dst ≠ some t) →
    look (envL all vs env (fun k => S k || decide (k = i)) m) s = if i < m then look (St.put ⟨envL all vs env S m, os⟩ o.dst (vs i)).env s else look (envL all vs env S m) s
  | 0, h => by simp [envL]
  | m + 1, h => by
    have ih := look_ins ho hSi (os := os) (s := s) (vs := vs) (env := env) m (fun h1 k h2 h3 => h (by omega) k h2 (by omega))
    by_cases e : m = i
    · subst e
      rw [if_pos (by omega)]
      rw [if_neg (by omega)] at ih
      simp only [envL, ho, Option.bind_some, decide_true, Bool.or_true, hSi]
      cases hd : o.dst with
      | none => simp only [St.put]; exact ih
      | some t => simp only [St.put, look, ih]
    · by_cases hlt : i < m
      · rw [if_pos (by omega)]
        rw [if_pos hlt] at ih
        simp only [envL]
        have hne : decide (m = i) = false := by simp [e]
        rw [hne, Bool.or_false]
        cases hS : S m with
        | false => exact ih
        | true =>
          cases hm : (all[m]?).bind (·.dst) with
          | none => exact ih
          | some t' =>
            simp only [look, ih]
            obtain ⟨ok, hok, hdk⟩ : ∃ ok, all[m]? = some ok ∧ ok.dst = some t' := by
              cases h9 : all[m]? with
              | none => rw [h9] at hm; cases hm
              | some ok => rw [h9] at hm; exact ⟨ok, rfl, hm⟩
            cases hd : o.dst with
            | none => simp only [St.put, look]
            | some t =>
              have hne2 : t' ≠ t := fun e2 => h (by omega) m hlt (by omega) hS ok hok t hd (by rw [hdk, e2])
              simp only [St.put, look]
              by_cases hts : t = s
              · subst hts
                have hb : Nat.beq t' t = false := by cases hb : Nat.beq t' t with | false => rfl | true => exact absurd (Nat.eq_of_beq_eq_true hb) hne2
                rw [hb, Nat.beq_refl]; rfl
              · have hb : Nat.beq t s = false := by cases hb : Nat.beq t s with | false => rfl | true => exact absurd (Nat.eq_of_beq_eq_true hb) hts
                rw [hb]; rfl
      · rw [if_neg (by omega)]
        rw [if_neg hlt] at ih
        simp only [envL]
        have hne : decide (m = i) = false := by simp [e]
        rw [hne, Bool.or_false]
        cases hS : S m with
        | false => exact ih
        | true =>
          cases hm : (all[m]?).bind (·.dst) with
          | none => exact ih
          | some t' => simp only [look, ih]

end
end Go.PL

/- PlDraw4 -/
namespace Go.PL
open Go

section
variable {P : Program} {T : Tab} [TOk T P] {C : Call} {gl : GL} [TG T gl]

theorem mem_ready {all : Array Oper} {L : Array Bool} {i : Nat} : i ∈ Region.ready .any all L ↔ i < all.size ∧ L.getD i true = false ∧ ∀ o, all[i]? = some o → ∀ e ∈ o.after, Region.binds .any e = true → L.getD e.on false = true := by
  unfold Region.ready
  simp only [List.mem_filter, List.mem_range, Bool.and_eq_true, Bool.not_eq_true']
  constructor
  · rintro ⟨h1, h2, h3⟩
    refine ⟨h1, h2, fun o ho e he hb => ?_⟩
    rw [ho] at h3
    simp only [Option.map_some, Option.getD_some, Array.all_eq_true'] at h3
    have := h3 e he
    simpa [hb] using this
  · rintro ⟨h1, h2, h3⟩
    refine ⟨h1, h2, ?_⟩
    have ho : all[i]? = some all[i] := by simp [h1]
    rw [ho]
    simp only [Option.map_some, Option.getD_some, Array.all_eq_true']
    intro e he
    by_cases hb : Region.binds .any e = true
    · simp [h3 _ ho e he hb]
    · simp [hb]

theorem getD_listed {L : Array Bool} {n i : Nat} (hs : L.size = n) (hi : i < n) : L.getD i true = L.getD i false := by
  have : i < L.size := by omega
  simp [Array.getD, this]

theorem getD_set {L : Array Bool} {n i j : Nat} (hs : L.size = n) (hi : i < n) : (L.setIfInBounds i true).getD j false = (L.getD j false || decide (j = i)) := by
  simp only [Array.getD_eq_getD_getElem?, Array.getElem?_setIfInBounds]
  by_cases h : i = j
  · subst h; simp [show i < L.size by omega]
  · have h' : ¬ j = i := fun e => h e.symm
    simp [h, h']

/-- A region that draws its order. -/
theorem draw_sound {ro : Option Nat} {mm : Nat} {nF nt m : Nat} {g : Ghost} {all : Array Oper} {os : List Ob} {env : List (Nat × V)} {vs : Nat → V} {K : St → Prop} {Q : Exit → Act → World → Prop}
    (hC : ∀ f a os r os', C f a os r os' → Says P gl f a os r os') (hg : g.os0.length = nF) (hG : GOk gl g.w0 g.Pr0 g.p0 g.os0) (hF : DrawFacts all m) (hd : ∀ o ∈ all, dOk nt o = true)
    (hy : ∀ k o, k < m → all[k]? = some o → Yields T C nF all os (envL all vs env (fun _ => true) k) o (vs k))
    (ht : opsK T C nF all (all.toList.drop m) ⟨envL all vs env (fun _ => true) m, os⟩ K)
    (hK : ∀ s a' w', K s → Rel g s a' w' → a'.tmps.size = nt → Q .normal a' w') :
    ∀ (fuel : Nat) (L : Array Bool) (a : Act) (w : World), L.size = all.size → (∀ j o, L.getD j false = true → all[j]? = some o → ∀ e ∈ o.after, Region.binds .any e = true → L.getD e.on false = true) →
      (∃ l : List Nat, l.length ≤ fuel ∧ ∀ j, j < all.size → L.getD j false = false → j ∈ l) → a.tmps.size = nt →
      (((∀ j, m ≤ j → j < all.size → L.getD j false = false) ∧ Rel g ⟨envL all vs env (fun j => L.getD j false) m, os⟩ a w) ∨
        (∃ k s, m ≤ k ∧ k ≤ all.size ∧ (∀ j, j < all.size → L.getD j false = decide (j < k)) ∧ Rel g s a w ∧ opsK T C nF all (all.toList.drop k) s K)) →
      wpAnyIn (FR ro) mm P .any all Q fuel L a w := by
  -- nothing is ready: all have come up
  have done : ∀ (L : Array Bool) (a : Act) (w : World), L.size = all.size → (∀ j o, L.getD j false = true → all[j]? = some o → ∀ e ∈ o.after, Region.binds .any e = true → L.getD e.on false = true) → a.tmps.size = nt →
      (((∀ j, m ≤ j → j < all.size → L.getD j false = false) ∧ Rel g ⟨envL all vs env (fun j => L.getD j false) m, os⟩ a w) ∨
        (∃ k s, m ≤ k ∧ k ≤ all.size ∧ (∀ j, j < all.size → L.getD j false = decide (j < k)) ∧ Rel g s a w ∧ opsK T C nF all (all.toList.drop k) s K)) →
      (∀ j, j < all.size → L.getD j false = true) → Q .normal a w := by
    intro L a w hs hcl hn hD hall
    rcases hD with ⟨h1, h2⟩ | ⟨k, s, h1, h2, h3, h4, h5⟩
    · have hm : m = all.size := by
        rcases Nat.lt_or_ge m all.size with h | h
        · have := h1 m (Nat.le_refl _) h; rw [hall m h] at this; cases this
        · have := hF.le; omega
      rw [List.drop_eq_nil_of_le (by simp; omega)] at ht
      refine hK _ a w ht (Rel.look (fun t => look_envL m fun i hi _ => ?_) h2) hn
      rw [hall i (by have := hF.le; omega)]
    · have hk : k = all.size := by
        rcases Nat.lt_or_ge k all.size with h | h
        · have := h3 k h; rw [hall k h] at this; simp at this
        · omega
      rw [List.drop_eq_nil_of_le (by simp; omega)] at h5
      exact hK _ a w h5 h4 hn
  have min : ∀ (L : Array Bool), L.size = all.size → (∀ j o, L.getD j false = true → all[j]? = some o → ∀ e ∈ o.after, Region.binds .any e = true → L.getD e.on false = true) → Region.ready .any all L = [] → ∀ j, j < all.size → L.getD j false = true := by
    intro L hs hcl hr j
    induction j using Nat.strongRecOn with
    | _ j ih =>
      intro hj
      cases hL : L.getD j false with
      | true => rfl
      | false =>
        exfalso
        have : j ∈ Region.ready .any all L := mem_ready.2 ⟨hj, by rw [getD_listed hs hj]; exact hL, fun o ho e he hb => by
          have hw : e.on ∈ waits all all.size j := by
            obtain ⟨k, hk⟩ : ∃ k, all.size = k + 1 := ⟨all.size - 1, by omega⟩
            rw [hk]
            unfold waits
            rw [ho]
            simp only [Option.map_some, Option.getD_some, List.mem_flatMap]
            exact ⟨e, by simpa using he, by rw [if_pos hb]; simp⟩
          have hlt := hF.back j e.on hj hw
          exact ih e.on hlt (by omega)⟩
        rw [hr] at this; cases this
  intro fuel
  induction fuel with
  | zero =>
    rintro L a w hs hcl ⟨l, hl, hmem⟩ hn hD
    have hall : ∀ j, j < all.size → L.getD j false = true := by
      intro j hj
      cases h : L.getD j false with
      | true => rfl
      | false =>
        have := hmem j hj h
        have hnil : l = [] := List.eq_nil_of_length_eq_zero (by omega)
        rw [hnil] at this; cases this
    refine ⟨?_, done L a w hs hcl hn hD hall⟩
    rw [List.eq_nil_iff_forall_not_mem]
    intro i hi
    obtain ⟨h1, h2, _⟩ := mem_ready.1 hi
    rw [getD_listed hs h1, hall i h1] at h2; cases h2
  | succ fuel ih =>
    rintro L a w hs hcl ⟨l, hl, hmem⟩ hn hD
    refine ⟨fun hr => done L a w hs hcl hn hD (min L hs hcl hr), fun i hi => ?_⟩
    obtain ⟨h1, h2, h3⟩ := mem_ready.1 hi
    rw [getD_listed hs h1] at h2
    have ho : all[i]? = some all[i] := by simp [h1]
    have hdo : dOk nt all[i] = true := hd _ (by simp)
    have hs' : (L.setIfInBounds i true).size = all.size := by simpa using hs
    have hcl' : ∀ j o, (L.setIfInBounds i true).getD j false = true → all[j]? = some o → ∀ e ∈ o.after, Region.binds .any e = true → (L.setIfInBounds i true).getD e.on false = true := by
      intro j o hj hoj e he hb
      rw [getD_set hs h1] at hj ⊢
      simp only [Bool.or_eq_true, decide_eq_true_eq] at hj ⊢
      rcases hj with hj | rfl
      · exact .inl (hcl j o hj hoj e he hb)
      · exact .inl (h3 o hoj e he hb)
    have hl' : ∃ l : List Nat, l.length ≤ fuel ∧ ∀ j, j < all.size → (L.setIfInBounds i true).getD j false = false → j ∈ l := by
      refine ⟨l.erase i, ?_, fun j hj hLj => ?_⟩
      · rw [List.length_erase_of_mem (hmem i h1 h2)]; omega
      · rw [getD_set hs h1] at hLj
        simp only [Bool.or_eq_false_iff, decide_eq_false_iff_not] at hLj
        exact (List.mem_erase_of_ne hLj.2).2 (hmem j hj hLj.1)
    have hwl : ∀ {x}, x ∈ waits all all.size i → L.getD x false = true := fun hx => waits_ready (listed := fun j => L.getD j false) hcl ho (fun e he hb => h3 _ ho e he hb) hx
    -- the tail, in its order
    have tail : ∀ k s, m ≤ k → k ≤ all.size → (∀ j, j < all.size → L.getD j false = decide (j < k)) → Rel g s a w → opsK T C nF all (all.toList.drop k) s K → wpOpIn (FR ro) mm P all Q i (wpAnyIn (FR ro) mm P .any all Q fuel (L.setIfInBounds i true)) a w := by
      intro k s hmk hk hLk hR hops
      have hik : i = k := by
        have hge : k ≤ i := by
          rcases Nat.lt_or_ge i k with h | h
          · have := hLk i h1; rw [h2] at this; simp [h] at this
          · exact h
        rcases Nat.lt_or_ge k i with h | h
        · have := hwl (hF.tail i k h1 (by omega) h)
          rw [hLk k (by omega)] at this; simp at this
        · omega
      subst hik
      have hlt : i < all.toList.length := by simpa using h1
      rw [List.drop_eq_getElem_cons hlt] at hops
      simp only [opsK] at hops
      have ho2 : all[i]? = some all.toList[i] := by simp [h1]
      have hdo2 : dOk nt all.toList[i] = true := by simpa using hdo
      have hnext : ∀ s' a' w', opsK T C nF all (all.toList.drop (i + 1)) s' K → Rel g s' a' w' → a'.tmps.size = nt → wpAnyIn (FR ro) mm P .any all Q fuel (L.setIfInBounds i true) a' w' := by
        intro s' a' w' q1 q2 q3
        refine ih _ a' w' hs' hcl' hl' q3 (.inr ⟨i + 1, s', by omega, by omega, fun j hj => ?_, q2, q1⟩)
        rw [getD_set hs h1, hLk j hj]
        by_cases h5 : j < i
        · simp [h5, show j < i + 1 by omega]
        · by_cases h6 : j = i
          · subst h6; simp
          · simp [h5, h6, show ¬ j < i + 1 by omega]
      unfold wpOpIn
      rw [ho2]
      simp only
      rcases guard_sound hR hops with ⟨g1, g2⟩ | ⟨g1, g2⟩
      · rw [if_pos g1]
        exact (op1_sound hC hg hG hR hn hdo2 g2 hnext)
      · rw [if_neg (by rw [g1]; simp)]
        refine ⟨fun _ _ => trivial, ?_⟩
        exact hnext _ _ w g2 (hR.undef (by rw [hn]; exact hdo2)) (by rw [put_size]; exact hn)
    rcases hD with ⟨d1, d2⟩ | ⟨k, s, e1, e2, e3, e4, e5⟩
    · by_cases him : i < m
      · refine yield_sound hC hg hG ho d2 hn hdo (hy i _ him ho) (fun t htm => ?_) (fun a' w' q1 q2 => ?_)
        · rw [← look_lt (all := all) (vs := vs) (env := env) m (by omega)]
          refine look_envL m fun k hk hdk => ?_
          obtain ⟨ok, hok, hdk⟩ : ∃ ok, all[k]? = some ok ∧ ok.dst = some t := by
            cases h9 : all[k]? with
            | none => rw [h9] at hdk; cases hdk
            | some ok => rw [h9] at hdk; exact ⟨ok, rfl, hdk⟩
          rcases Nat.lt_trichotomy k i with hki | rfl | hki
          · rw [decide_eq_true hki]
            rcases hF.apart i k _ _ him hki hok ho with h | h
            · exact hwl h
            · exact absurd (List.mem_append_right _ htm) (h.1 t hdk)
          · rw [h2]; simp
          · have : decide (k < i) = false := by simp; omega
            rw [this]
            cases hL : L.getD k false with
            | false => rfl
            | true =>
              rcases hF.apart k i _ _ hk hki ho hok with h | h
              · have : L.getD i false = true := waits_listed (listed := fun j => L.getD j false) hcl _ k i hL h
                rw [h2] at this; cases this
              · exact absurd (List.mem_append_right _ htm) (h.2 t hdk)
        · refine ih _ a' w' hs' hcl' hl' q2 (.inl ⟨fun j hj1 hj2 => ?_, Rel.look (fun s => ?_) (show Rel g ⟨(St.put ⟨envL all vs env (fun j => L.getD j false) m, os⟩ all[i].dst (vs i)).env, os⟩ a' w' from by cases h9 : all[i].dst <;> rw [h9] at q1 <;> exact q1)⟩)
          · rw [getD_set hs h1, d1 j hj1 hj2]; simp; omega
          · have hins := look_ins (all := all) (vs := vs) (env := env) (S := fun j => L.getD j false) (i := i) ho h2 (os := os) (s := s) m (fun _ k hk1 hk2 hSk ok hok t ht1 ht2 => by
              rcases hF.apart k i _ _ hk2 hk1 ho hok with h | h
              · have : L.getD i false = true := waits_listed (listed := fun j => L.getD j false) hcl _ k i hSk h
                rw [h2] at this; cases this
              · exact h.1 t ht1 (dst_mem ht2))
            rw [if_pos him] at hins
            rw [← hins]
            exact look_envL m fun k hk _ => by rw [getD_set hs h1]
      · -- the head has all come up
        have hall : ∀ j, j < i → L.getD j false = true := fun j hj => hwl (hF.tail i j h1 (by omega) hj)
        have him2 : i = m := by
          rcases Nat.lt_or_ge m i with h | h
          · have := d1 m (Nat.le_refl _) (by omega); rw [hall m h] at this; cases this
          · omega
        refine tail m _ (Nat.le_refl _) hF.le (fun j hj => ?_) (Rel.look (fun t => look_envL m fun j hj _ => ?_) d2) ht
        · by_cases hjm : j < m
          · rw [hall j (by omega)]; simp [hjm]
          · rw [d1 j (by omega) hj]; simp [hjm]
        · rw [hall j (by omega)]
    · exact tail k s e1 e2 e3 e4 e5

end
end Go.PL

/- PlRange -/
/- A range over a function that hands over a slice's elements, the last first. -/
namespace Go.PL
open Go

section
variable {P : Program} {T : Tab} {C : Call} {gl : GL} [TG T gl]

theorem cellAt_some {w : World} {b i : Nat} {v : Value} (h : cellAt w b i = some v) : ∃ o, w.heap[b]? = some o ∧ o.isCells = true := by
  unfold cellAt World.cell? at h
  cases ho : w.heap[b]? with
  | none => simp [ho] at h
  | some o =>
    refine ⟨o, rfl, ?_⟩
    cases o <;> simp_all [Obj.isCells]

theorem Mem.cells {w : World} {Pr : Pro} {p : Place} {os : List Ob} (hM : Mem w Pr p os) {o : Nat} {ob : Ob} (h : os[o]? = some ob) (hd : ob ≠ .dead) : ∃ x, w.heap[p.bl o]? = some x ∧ x.isCells = true := by
  have h3 := hM.ob o ob h
  cases ob with
  | var cs fz => obtain ⟨vs, et, k1, _⟩ := h3; exact ⟨_, k1, rfl⟩
  | arr sz es fz => obtain ⟨vs, et, k1, _⟩ := h3; exact ⟨_, k1, rfl⟩
  | tree sz es => obtain ⟨vs, et, k1, _⟩ := h3; exact ⟨_, k1, rfl⟩
  | dead => exact absurd rfl hd

/-- A world where blocks that are no cells have turned, and more have been laid. -/
structure Beside (w W : World) : Prop where
  os : W.os = w.os
  tape : W.tape = w.tape
  output : W.output = w.output
  size : w.heap.size ≤ W.heap.size
  cells : ∀ (k : Nat) (o : Obj), w.heap[k]? = some o → o.isCells = true → W.heap[k]? = some o

theorem Beside.stab {w W : World} (h : Beside w W) (Pr : Pro) : Stab w W Pr Pr :=
  ⟨fun _ _ h => h, fun b i v _ hc => by
    obtain ⟨o, h1, h2⟩ := cellAt_some hc
    rw [cellAt_of_heap ((h.cells b o h1 h2).trans h1.symm)]; exact hc⟩

theorem Beside.mem {w W : World} (h : Beside w W) {Pr : Pro} {p : Place} {os : List Ob} (hM : Mem w Pr p os) : Mem W Pr p os := by
  refine ⟨fun b i hb => Nat.lt_of_lt_of_le (hM.prIn b i hb) h.size, fun o ob k1 k2 => Nat.lt_of_lt_of_le (hM.blk o ob k1 k2) h.size, hM.inj, fun o ob k1 => ?_, fun o ob k c h1 ht hk => by
    obtain ⟨⟨vs, et, a1⟩, a2, a3⟩ := hM.own o ob k c h1 ht hk
    exact ⟨⟨vs, et, h.cells k _ a1 rfl⟩, a2, a3⟩⟩
  refine (hM.ob o ob k1).mono (h.stab Pr) (.refl _ _) (fun k2 => ⟨rfl, rfl, ?_, fun _ => .rfl⟩) (fun ht k c hk => ⟨hk, by
    obtain ⟨⟨vs, et, a1⟩, _⟩ := hM.own o ob k c k1 ht hk
    exact (h.cells k _ a1 rfl).trans a1.symm⟩)
  obtain ⟨x, h1, h2⟩ := hM.cells k1 k2
  exact (h.cells _ x h1 h2).trans h1.symm

theorem Beside.inv {w W : World} (h : Beside w W) {g : Ghost} {Pr : Pro} {p : Place} {os : List Ob} (hI : Inv g w Pr p os) (hk : ∀ k, k < g.w0.heap.size → W.heap[k]? = w.heap[k]?) : Inv g W Pr p os :=
  ⟨h.mem hI.mem, hI.frm.trans ⟨h.os, h.tape, h.output, h.size, fun k k1 _ => hk k k1⟩, hI.stab.trans (h.stab Pr), hI.prN, hI.cmp, hI.own⟩

theorem Beside.put {w : World} {l : Nat} {o x : Obj} (h : w.heap[l]? = some o) (ho : o.isCells = false) : Beside w (w.putObj l x) :=
  ⟨rfl, rfl, rfl, by rw [World.putObj_size]; exact Nat.le_refl _, fun k y h1 h2 => by
    by_cases e : k = l
    · subst e; rw [h] at h1; cases h1; rw [ho] at h2; cases h2
    · exact (World.putObj_heap_other e).trans h1⟩

theorem Beside.alloc (w : World) (o : Obj) : Beside w (w.alloc o) :=
  ⟨rfl, rfl, rfl, by simp, fun k y h1 _ => (Go.RowKit.Below.heap_alloc w o k (Array.getElem?_eq_some_iff.1 h1).1).trans h1⟩

theorem Beside.trans {a b c : World} (h : Beside a b) (k : Beside b c) : Beside a c :=
  ⟨k.os.trans h.os, k.tape.trans h.tape, k.output.trans h.output, Nat.le_trans h.size k.size, fun i o h1 h2 => k.cells i o (h.cells i o h1 h2) h2⟩

/-- The activation as it would have begun, had a block that is no cells been another. -/
theorem Inv.flip {A W : World} {Pr0 Pr : Pro} {p0 p : Place} {os0 os : List Ob} {l : Nat} {o x : Obj} (hI : Inv ⟨A, Pr0, p0, os0⟩ W Pr p os) (hl : A.heap[l]? = some o) (ho : o.isCells = false) (hw : W.heap[l]? = some o) (hx : x.isCells = false) :
    Inv ⟨A.putObj l x, Pr0, p0, os0⟩ (W.putObj l x) Pr p os := by
  have hlt : l < A.heap.size := (Array.getElem?_eq_some_iff.1 hl).1
  have hb := Beside.put (x := x) hw ho
  refine ⟨hb.mem hI.mem, ⟨hI.frm.os, hI.frm.tape, hI.frm.output, ?_, fun k h1 h2 => ?_⟩, ⟨hI.stab.pr, fun b i v h1 h2 => ?_⟩, fun b i h1 => ?_, hI.cmp, fun k h1 => ?_⟩
  · show (A.putObj l x).heap.size ≤ (W.putObj l x).heap.size
    rw [World.putObj_size, World.putObj_size]; exact hI.frm.size
  · simp only [World.putObj_size] at h1
    by_cases e : k = l
    · subst e
      rw [World.putObj_heap_same (Array.getElem?_eq_some_iff.1 hw).1, World.putObj_heap_same hlt]
    · rw [World.putObj_heap_other e, World.putObj_heap_other e]
      exact hI.frm.block k h1 h2
  · have hne : b ≠ l := by
      rintro rfl
      obtain ⟨y, k1, k2⟩ := cellAt_some h2
      rw [World.putObj_heap_same hlt] at k1
      cases k1; rw [hx] at k2; cases k2
    rw [cellAt_of_heap (World.putObj_heap_other hne)] at h2 ⊢
    exact hI.stab.cell b i v h1 h2
  · rcases hI.prN b i h1 with h | h | h
    · exact .inl h
    · right; left; simp only [World.putObj_size]; exact h
    · exact .inr (.inr h)
  · simp only [World.putObj_size]
    exact hI.own k h1

theorem putObj_putObj (w : World) (l : Nat) (a b : Obj) : (w.putObj l a).putObj l b = w.putObj l b := by
  simp [World.putObj, Array.setIfInBounds_setIfInBounds]

theorem Inv.refl {w : World} {Pr : Pro} {p : Place} {os : List Ob} (hM : Mem w Pr p os) : Inv ⟨w, Pr, p, os⟩ w Pr p os :=
  ⟨hM, .refl _ _ _, .refl _ _, fun _ _ h => .inl h, .refl _ _, fun _ h => .inr h⟩

theorem Inv.same {A W : World} {Pr0 Pr : Pro} {p0 p : Place} {os0 os : List Ob} {l : Nat} {o : Obj} (hI : Inv ⟨A, Pr0, p0, os0⟩ W Pr p os) (hM0 : Mem A Pr0 p0 os0) (hl : A.heap[l]? = some o) (ho : o.isCells = false) : W.heap[l]? = some o := by
  have h := hI.frm.block l (Array.getElem?_eq_some_iff.1 hl).1 (by
    rintro ⟨q, ob, h1, h2, h3 | ⟨h3, c, h4⟩⟩
    · obtain ⟨x, k1, k2⟩ := hM0.cells h1 h2
      simp only at h3
      rw [h3] at k1
      rw [hl] at k1; cases k1; rw [ho] at k2; cases k2
    · obtain ⟨⟨vs, et, a1⟩, _⟩ := hM0.own q ob l c h1 h3 h4
      rw [hl] at a1; cases a1; cases ho)
  exact h.trans hl

def exitOf : Ex → Exit
  | .normal => .normal
  | .exit n => .exit n
  | .ret => .ret

def PostOf (g : Ghost) (nt : Nat) (Q : Ex → St → Prop) : Exit → Act → World → Prop := fun e a w => ∃ x s, e = exitOf x ∧ Q x s ∧ Rel g s a w ∧ a.tmps.size = nt

def codeOf : Ex → Code
  | .normal => .skip
  | .exit n => .exit n
  | .ret => .ret

/-- The marks stay where a block that is no mark's turns. -/
theorem Marks.put {b : Nat} {w : World} {l : Nat} {r : Loop} {o : Obj} (h : w.heap[l]? = some (.loop r)) {ds : List Deferred} (hm : Marks b w ds) : Marks b (w.putObj l o) ds :=
  hm.keep fun D _ hD => by
    have : D ≠ l := by rintro rfl; rw [h] at hD; cases hD
    exact (World.putObj_heap_other this).trans hD

theorem Rel.flip {A W : World} {Pr0 : Pro} {p0 : Place} {os0 : List Ob} {l : Nat} {r x : Loop} {s : St} {a : Act} (hR : Rel ⟨A, Pr0, p0, os0⟩ s a W) (hl : A.heap[l]? = some (.loop r)) (hw : W.heap[l]? = some (.loop r)) :
    Rel ⟨A.putObj l (.loop x), Pr0, p0, os0⟩ s a (W.putObj l (.loop x)) := by
  obtain ⟨⟨Pr, p, h1, h2⟩, h3⟩ := hR
  refine ⟨⟨Pr, p, h1.flip hl rfl hw rfl, fun t => (h2 t).cmp ((Beside.put hw rfl).stab Pr) (.refl _ _)⟩, ?_⟩
  show Marks (A.putObj l (.loop x)).heap.size _ _
  rw [World.putObj_size]
  exact h3.put hw

theorem Rel.loopAt {A W : World} {Pr0 : Pro} {p0 : Place} {os0 : List Ob} {l : Nat} {r : Loop} {s : St} {a : Act} (hR : Rel ⟨A, Pr0, p0, os0⟩ s a W) (hM0 : Mem A Pr0 p0 os0) (hl : A.heap[l]? = some (.loop r)) : W.heap[l]? = some (.loop r) := by
  obtain ⟨⟨Pr, p, h1, h2⟩, h3⟩ := hR
  exact h1.same hM0 hl rfl

theorem Marks.mem {b : Nat} {w : World} : ∀ {l : List Deferred}, Marks b w l → ∀ e ∈ l, ∃ D, e = { target := .collected D, args := #[] } ∧ D < w.heap.size
  | _ :: r, ⟨⟨D, h1, _, h3, _⟩, h5⟩, e, he => by
    rcases List.mem_cons.1 he with rfl | he
    · exact ⟨D, h1, (Array.getElem?_eq_some_iff.1 h3).1⟩
    · exact Marks.mem h5 e he

theorem putObj_self {w : World} {l : Nat} {o : Obj} (h : w.heap[l]? = some o) : w.putObj l o = w := by
  have : w.heap.setIfInBounds l o = w.heap := by
    apply Array.ext_getElem?
    intro i
    by_cases e : l = i
    · subst e; rw [h]; simp [(Array.getElem?_eq_some_iff.1 h).1]
    · rw [Array.getElem?_setIfInBounds_ne e]
  simp [World.putObj, this]

theorem range_sound [ItOk T P] {nF nt mm : Nat} {g : Ghost} (hg : g.os0.length = nF) (hG : GOk gl g.w0 g.Pr0 g.p0 g.os0) {f : Operand} {p0 p1 : Tmp} {assign body : Code} {s : St} {Q : Ex → St → Prop} (gf : FuncId) (es : List Int) (I : Nat → List Ob → Prop) (X : Ex → List Ob → Prop) (M : Nat → List Ob → St → Prop)
    (hbk : gf ∈ T.bk) (hp : p0 ≠ p1) (hle : nF ≤ s.os.length) (hlen : es.length * 8 ≤ 140737488351232) (hf : ev s.env f = .d (.fn (.func gf) [] [.ptr [.sl (es.map .i)]])) (h0 : I es.length s.os)
    (hp0 : p0 < nt) (hp1 : p1 < nt)
    (iha : ∀ k os, k < es.length → I (k + 1) os → ∀ (g : Ghost) a w, g.os0.length = s.os.length → GOk gl g.w0 g.Pr0 g.p0 g.os0 → Rel g ⟨(p1, .d (.i (es.getD k 0))) :: (p0, .d (.i k)) :: s.env, os⟩ a w → a.tmps.size = nt → ∀ l m, assign.wpIn (FR (some l)) m P (PostOf g nt fun e s' => e = .normal ∧ M k os s') a w)
    (ihb : ∀ k os s', k < es.length → I (k + 1) os → M k os s' → ∀ (g : Ghost) a w, g.os0.length = s.os.length → GOk gl g.w0 g.Pr0 g.p0 g.os0 → Rel g s' a w → a.tmps.size = nt → ∀ l m, body.wpIn (FR (some l)) m P (PostOf g nt (thn (fun s' => ∃ s'', Weak s.os.length s' s'' ∧ I k s''.os) (fun e s' => ∃ s'', Weak s.os.length s' s'' ∧ X e s''.os))) a w)
    (hdone : ∀ os, I 0 os → Q .normal ⟨s.env, os⟩) (hstop : ∀ e os, X e os → e ≠ .normal ∧ Q e ⟨s.env, os⟩)
    {a : Act} {w : World} (hR : Rel g s a w) (hn : a.tmps.size = nt) : (Code.rangeFunc f #[p0, p1] assign body).wpIn (FR none) mm P (PostOf g nt Q) a w := by
  obtain ⟨⟨Pr, p, hI, hE⟩, hmk⟩ := hR
  have hv := evalR hE f
  rw [hf] at hv
  obtain ⟨lb, hgv, hlb⟩ : ∃ lb, a.eval f = .func (.func gf) #[] #[lb] ∧ RelD w Pr (.ptr [.sl (es.map .i)]) lb := by
    generalize a.eval f = v at hv
    cases hv with
    | d hd =>
      cases hd with
      | fn _ _ _ vf vc hs1 hs2 hr1 hr2 =>
        have e1 : vf = #[] := Array.eq_empty_of_size_eq_zero (by simpa using hs1)
        have e2 : vc.size = 1 := by simpa using hs2
        subst e1
        refine ⟨vc[0], ?_, by simpa using hr2 0 (by simp)⟩
        congr 1
        apply Array.ext
        · simpa using e2
        · intro i h1 h2
          have : i = 0 := by simp at h2; omega
          subst this; rfl
  obtain ⟨⟨fn, q1, q2, q3⟩, hback⟩ := ItOk.ok (T := T) (P := P) gf hbk
  have q2' : fn.name ≠ "runtime.NumGoroutine" := by simpa using q2
  have q3' : fn.body ≠ none := by intro e; rw [e] at q3; cases q3
  refine wpIn_rangeFunc ?_
  intro fnid _
  obtain ⟨rec, hrec⟩ : ∃ rec : LoopState → Option Code → Loop, rec = fun st pe => { state := st, pending := pe, fn := fnid, tmps := a.tmps, params := #[p0, p1], assign, body, defers := w.heap.size } := ⟨_, rfl⟩
  obtain ⟨W1, hW1⟩ : ∃ W1, (w.alloc (.deferred (some []))).alloc (.loop (rec .ready none)) = W1 := ⟨_, rfl⟩
  have hB1 : Beside w W1 := by rw [← hW1]; exact (Beside.alloc _ _).trans (Beside.alloc _ _)
  have hL1 : W1.heap[w.heap.size + 1]? = some (.loop (rec .ready none)) := by
    rw [← hW1]; have := World.alloc_heap_new (w.alloc (.deferred (some []))) (.loop (rec .ready none)); rwa [World.size_alloc] at this
  have hK1 : W1.heap[w.heap.size]? = some (.deferred (some [])) := by
    rw [← hW1]; exact (Go.RowKit.Below.heap_alloc _ _ _ (by simp)).trans (World.alloc_heap_new w _)
  have hold : ∀ k, k < w.heap.size → W1.heap[k]? = w.heap[k]? := by
    intro k hk
    rw [← hW1]; exact (Go.RowKit.Below.heap_alloc _ _ _ (by simp; omega)).trans (Go.RowKit.Below.heap_alloc _ _ _ hk)
  have hM1 : Mem W1 Pr p s.os := hB1.mem hI.mem
  have hG1 : GOk gl W1 Pr p s.os := by
    have h1 := hG.inv hI
    exact ⟨fun x hx => (hold x.1 (Array.getElem?_eq_some_iff.1 (h1.cell x hx)).1).trans (h1.cell x hx), h1.apart, fun x hx => (h1.dat x hx).mono (hB1.stab Pr)⟩
  have hGp : ∀ y, GOk gl (W1.putObj (w.heap.size + 1) y) Pr p s.os := fun y => by
    have h1 := hG.inv hI
    refine ⟨fun x hx => ?_, h1.apart, fun x hx => (hG1.dat x hx).mono ((Beside.put hL1 rfl).stab Pr)⟩
    have := (Array.getElem?_eq_some_iff.1 (h1.cell x hx)).1
    rw [World.putObj_heap_other (by omega)]
    exact hG1.cell x hx
  have hlt1 : w.heap.size + 1 < W1.heap.size := (Array.getElem?_eq_some_iff.1 hL1).1
  refine ⟨w.heap.size + 1, [{ target := .collected w.heap.size, args := #[] }], W1, { target := .fn (.func gf) #[lb], args := #[.func (.yield (w.heap.size + 1)) #[] #[]] }, W1, gf,
    #[.func (.yield (w.heap.size + 1)) #[] #[], lb], W1, ?_, ?_, fun _ _ => trivial, ?_, (fun e => nomatch e), ?_⟩
  · rw [← hW1, hrec]; exact run_enterLoop_outer _ _ _ _ _
  · simp only [resolve, hgv]
    simp [go_sem]
  · simp [invoke, callFunc, q1, q2', q3']
  · refine (callsIn_wide (n := mm - 1)).2 ((hback (mm - 1) es lb
      (fun k Pr' W => ∃ os p', I k os ∧ Inv ⟨W1, Pr, p, s.os⟩ W Pr' p' os)
      (fun W => ∃ e os Pr' p', X e os ∧ Inv ⟨W1.putObj (w.heap.size + 1) (.loop (rec .done (some (codeOf e)))), Pr, p, s.os⟩ W Pr' p' os)
      (w.heap.size + 1) W1 Pr hlen ?_ ⟨s.os, p, h0, Inv.refl hM1⟩ ?_).mono ?_)
    · rintro k Pr' W ⟨os, p', _, hJ⟩
      exact (hlb.mono (hB1.stab Pr)).mono hJ.stab
    · rintro k Pr' W hk ⟨os, p', hI', hJ⟩
      have hl : W.heap[w.heap.size + 1]? = some (.loop (rec .ready none)) := hJ.same hM1 hL1 rfl
      have hy := run_yield (P := P) (args := #[.int .i64 k, .int .i64 (es.getD k 0)]) hl (by rw [hrec]; rfl)
      rw [hrec] at hy
      refine ⟨fnid, _, assign, body, hy, roundIn_of_wpIn trivial ?_⟩
      have etm : (Array.foldl (fun t (x : Tmp × Value) => t.setIfInBounds x.1 x.2) a.tmps (#[p0, p1].zip #[Value.int .i64 k, .int .i64 (es.getD k 0)])) = ((({ tmps := a.tmps, defers := [] } : Act).put (some p0) (.int .i64 k)).put (some p1) (.int .i64 (es.getD k 0))).tmps := by
        simp [Act.put]
      have hRs : Rel ⟨W1, Pr, p, s.os⟩ ⟨(p1, .d (.i (es.getD k 0))) :: (p0, .d (.i k)) :: s.env, os⟩ { tmps := ((({ tmps := a.tmps, defers := [] } : Act).put (some p0) (.int .i64 k)).put (some p1) (.int .i64 (es.getD k 0))).tmps, defers := [] } W := by
        refine ⟨⟨Pr', p', hJ, fun t => ?_⟩, trivial⟩
        rw [Act.getD_put (by rw [put_size]; show p1 < a.tmps.size; rw [hn]; exact hp1), Act.getD_put (by show p0 < a.tmps.size; rw [hn]; exact hp0)]
        simp only [look]
        cases h1 : Nat.beq p1 t with
        | true => rw [if_pos (Nat.eq_of_beq_eq_true h1)]; exact .d (.val _)
        | false =>
          rw [if_neg (fun e => by rw [e, Nat.beq_refl] at h1; cases h1), cond_false]
          cases h2 : Nat.beq p0 t with
          | true => rw [if_pos (Nat.eq_of_beq_eq_true h2)]; exact .d (.val _)
          | false =>
            rw [if_neg (fun e => by rw [e, Nat.beq_refl] at h2; cases h2), cond_false]
            exact (hE t).cmp ((hB1.stab Pr).trans hJ.stab) hJ.cmp
      have ha := iha k os hk hI' ⟨W1, Pr, p, s.os⟩ _ W rfl hG1 hRs (by simp [put_size, hn]) (w.heap.size + 1) (mm - 1)
      have etm2 : (Array.foldl (fun (t : Array Value) (x : Tmp × Value) => match x with | (p, v) => t.setIfInBounds p v) a.tmps (#[p0, p1].zip #[Value.int .i64 k, .int .i64 (es.getD k 0)])) = ((({ tmps := a.tmps, defers := [] } : Act).put (some p0) (.int .i64 k)).put (some p1) (.int .i64 (es.getD k 0))).tmps := etm
      show assign.wpIn (FR (some (w.heap.size + 1))) (mm - 1) P _ { tmps := Array.foldl _ a.tmps (#[p0, p1].zip #[Value.int .i64 k, .int .i64 (es.getD k 0)]), defers := [] } W
      rw [etm2]
      refine wpIn_mono ha ?_
      rintro e a2 W2 ⟨x, s', rfl, ⟨rfl, hMM⟩, hR2, hn2⟩
      have hl2 := hR2.loopAt hM1 hL1
      refine ⟨_, run_beginRound hl2 (by rw [hrec]), ?_⟩
      have eb : Obj.loop { rec .ready none with state := .busy } = .loop (rec .busy none) := by rw [hrec]
      rw [eb]
      have hR3 := hR2.flip (x := rec .busy none) hL1 hl2
      have hMb : Mem (W1.putObj (w.heap.size + 1) (.loop (rec .busy none))) Pr p s.os := (Beside.put hL1 rfl).mem hM1
      have hLb : (W1.putObj (w.heap.size + 1) (.loop (rec .busy none))).heap[w.heap.size + 1]? = some (.loop (rec .busy none)) := World.putObj_heap_same hlt1
      refine wpIn_mono (ihb k os s' hk hI' hMM ⟨W1.putObj (w.heap.size + 1) (.loop (rec .busy none)), Pr, p, s.os⟩ a2 _ rfl (hGp _) hR3 hn2 (w.heap.size + 1) (mm - 1)) ?_
      rintro e a3 W3 ⟨x, s3, rfl, hpost, hR4, hn4⟩
      have hl3 := hR4.loopAt hMb hLb
      cases x with
      | normal =>
        obtain ⟨s5, hw5, hI5⟩ := hpost
        obtain ⟨⟨Pr5, p5, hJ5, _⟩, _⟩ := (hw5.rel (g := ⟨_, Pr, p, s.os⟩) rfl hR4).flip (x := rec .ready none) hLb hl3
        rw [putObj_putObj, putObj_self hL1] at hJ5
        exact ⟨_, _, run_endRound none hl3, .inl ⟨rfl, Pr5, s5.os, p5, hI5, by rw [hrec] at hJ5 ⊢; exact hJ5⟩⟩
      | ret =>
        obtain ⟨s5, hw5, hI5⟩ := hpost
        obtain ⟨⟨Pr5, p5, hJ5, _⟩, _⟩ := (hw5.rel (g := ⟨_, Pr, p, s.os⟩) rfl hR4).flip (x := rec .done (some .ret)) hLb hl3
        rw [putObj_putObj] at hJ5
        exact ⟨_, _, run_endRound (some .ret) hl3, .inr ⟨rfl, .ret, s5.os, Pr5, p5, hI5, by rw [hrec] at hJ5 ⊢; exact hJ5⟩⟩
      | exit q =>
        obtain ⟨s5, hw5, hI5⟩ := hpost
        obtain ⟨⟨Pr5, p5, hJ5, _⟩, _⟩ := (hw5.rel (g := ⟨_, Pr, p, s.os⟩) rfl hR4).flip (x := rec .done (some (.exit q))) hLb hl3
        rw [putObj_putObj] at hJ5
        exact ⟨_, _, run_endRound (some (.exit q)) hl3, .inr ⟨rfl, .exit q, s5.os, Pr5, p5, hI5, by rw [hrec] at hJ5 ⊢; exact hJ5⟩⟩
    · have fin : ∀ (y z : Loop) (os2 : List Ob) (Pr2 : Pro) (p2 : Place) (W2 : World), Inv ⟨W1.putObj (w.heap.size + 1) (.loop y), Pr, p, s.os⟩ W2 Pr2 p2 os2 →
          Rel g ⟨s.env, os2⟩ { a with defers := [{ target := .collected w.heap.size, args := #[] }] ++ a.defers } (W2.putObj (w.heap.size + 1) (.loop z)) := by
        intro y z os2 Pr2 p2 W2 hJ
        have hMy : Mem (W1.putObj (w.heap.size + 1) (.loop y)) Pr p s.os := (Beside.put hL1 rfl).mem hM1
        have hLy : (W1.putObj (w.heap.size + 1) (.loop y)).heap[w.heap.size + 1]? = some (.loop y) := World.putObj_heap_same hlt1
        have hJz := hJ.flip (x := .loop z) hLy rfl (hJ.same hMy hLy rfl) rfl
        rw [putObj_putObj] at hJz
        obtain ⟨AZ, hAZ⟩ : ∃ AZ, W1.putObj (w.heap.size + 1) (.loop z) = AZ := ⟨_, rfl⟩
        have BZ : Beside w AZ := by rw [← hAZ]; exact hB1.trans (Beside.put hL1 rfl)
        have holdz : ∀ k, k < w.heap.size → AZ.heap[k]? = w.heap[k]? := fun k hk => by
          rw [← hAZ, World.putObj_heap_other (by omega)]; exact hold k hk
        have hKz : AZ.heap[w.heap.size]? = some (.deferred (some [])) := by
          rw [← hAZ, World.putObj_heap_other (by omega)]; exact hK1
        rw [hAZ] at hJz
        have hMz : Mem AZ Pr p s.os := BZ.mem hI.mem
        have hIz : Inv g AZ Pr p s.os := BZ.inv hI fun k hk => holdz k (Nat.lt_of_lt_of_le hk hI.frm.size)
        have m := hJz.moved (nF := g.os0.length) (by rw [hg]; exact hle)
        refine ⟨⟨Pr2, p2, hIz.step m.step m.mem, fun t => (hE t).cmp ((BZ.stab Pr).trans hJz.stab) hJz.cmp⟩, ⟨w.heap.size, rfl, hI.frm.size, hJz.same hMz hKz rfl, fun e he e2 => ?_⟩, ?_⟩
        · obtain ⟨D, h1, h2⟩ := hmk.mem e he
          rw [e2] at h1
          have : w.heap.size = D := by
            simp only [Deferred.mk.injEq, Target.collected.injEq, and_true] at h1; exact h1
          omega
        · refine Marks.keep (w := w) (fun D _ hD => ?_) hmk
          exact hJz.same hMz ((holdz D (Array.getElem?_eq_some_iff.1 hD).1).trans hD) rfl
      rintro e W2 ⟨⟨v, rfl⟩, (⟨Pr2, os2, p2, hI2, hJ2⟩ | ⟨x, os2, Pr2, p2, hX2, hJ2⟩)⟩
      · have hl := hJ2.same hM1 hL1 rfl
        refine ⟨none, _, by have := run_endLoop (P := P) hl (by rw [hrec]; simp); rw [hrec] at this; exact this, ⟨.normal, ⟨s.env, os2⟩, rfl, hdone os2 hI2, ?_, hn⟩⟩
        refine fin (rec .ready none) _ os2 Pr2 p2 W2 ?_
        rw [putObj_self hL1]; exact hJ2
      · have hMx : Mem (W1.putObj (w.heap.size + 1) (.loop (rec .done (some (codeOf x))))) Pr p s.os := (Beside.put hL1 rfl).mem hM1
        have hl := hJ2.same hMx (World.putObj_heap_same hlt1) rfl
        obtain ⟨hx1, hx2⟩ := hstop x os2 hX2
        have hRf := fin _ { rec .done (some (codeOf x)) with state := .exhausted } os2 Pr2 p2 W2 hJ2
        refine ⟨some (codeOf x), _, by have := run_endLoop (P := P) hl (by rw [hrec]; simp); rw [show (rec .done (some (codeOf x))).pending = some (codeOf x) by rw [hrec]] at this; exact this, ?_⟩
        cases x with
        | normal => exact absurd rfl hx1
        | ret => exact wpIn_ret ⟨.ret, _, rfl, hx2, by rw [hrec] at hRf ⊢; exact hRf, hn⟩
        | exit q => exact wpIn_exit ⟨.exit q, _, rfl, hx2, by rw [hrec] at hRf ⊢; exact hRf, hn⟩
end
end Go.PL

/- PlDraw5 -/
namespace Go.PL
open Go

section
variable {P : Program} {T : Tab} [TOk T P] {C : Call} {nF : Nat}

/-- Two frames that differ in some places alone. -/
def Sim (U : Nat → Prop) (s s2 : St) : Prop := s2.os = s.os ∧ ∀ t, ¬U t → look s2.env t = look s.env t

theorem Sim.put {U : Nat → Prop} {s s2 : St} (h : Sim U s s2) (d : Option Tmp) (v : V) : Sim U (s.put d v) (s2.put d v) := by
  cases d with
  | none => exact h
  | some t =>
    refine ⟨h.1, fun k hk => ?_⟩
    simp only [St.put, look]
    rw [h.2 k hk]

theorem look_map {f : V → V} (hf : f .any = .any) (t : Nat) : ∀ env : List (Nat × V), look (env.map fun x => (x.1, f x.2)) t = f (look env t)
  | [] => hf.symm
  | (k, v) :: r => by
    simp only [List.map_cons, look]
    cases Nat.beq k t with
    | true => rfl
    | false => exact look_map hf t r

theorem Sim.kill {U : Nat → Prop} {s s2 : St} (h : Sim U s s2) (o : Nat) : Sim U (s.kill o) (s2.kill o) := by
  refine ⟨by simp only [St.kill]; rw [h.1], fun t ht => ?_⟩
  simp only [St.kill]
  rw [look_map (f := PL.kill o) rfl, look_map (f := PL.kill o) rfl, h.2 t ht]

theorem Sim.os {U : Nat → Prop} {s s2 : St} (h : Sim U s s2) (os : List Ob) : Sim U { s with os := os } { s2 with os := os } := ⟨rfl, h.2⟩

/-- What goes on behind, at a frame that differs. -/
abbrev SimK (U : Nat → Prop) (K K2 : V → St → Prop) : Prop := ∀ v t t2, K v t → Sim U t t2 → K2 v t2

theorem appendK_env {U : Nat → Prop} {ti : TI} {s s2 : St} {x : V} {news : List D} {K K2 : V → St → Prop} (hK : SimK U K K2) (hs : Sim U s s2) (h : appendK nF ti s x news K) : appendK nF ti s2 x news K2 := by
  unfold appendK at *
  refine ⟨h.1, h.2.1, ?_⟩
  have h := h.2.2
  have e := hs.1
  split at h
  · split at h
    · rename_i ho
      rw [e, ho]
      refine ⟨h.1, h.2.1, h.2.2.1, h.2.2.2.1, h.2.2.2.2.1, hK _ _ _ h.2.2.2.2.2 ⟨?_, (hs.kill _).2⟩⟩
      simp only
      rw [(hs.kill _).1]
    · exact h.elim
  · exact ⟨fun e => hK _ _ _ (h.1 e) hs, fun q => ⟨(h.2 q).1, (h.2 q).2.1, by rw [e]; exact hK _ _ _ (h.2 q).2.2 (hs.os _)⟩⟩
  · exact h.elim

theorem storeK_env {U : Nat → Prop} {i : TI} {s s2 : St} {a x : V} {K K2 : V → St → Prop} (hK : SimK U K K2) (hs : Sim U s s2) (h : storeK i s a x (fun s => K .any s)) : storeK i s2 a x (fun s => K2 .any s) := by
  unfold storeK at *
  refine ⟨h.1, h.2.1, ?_⟩
  have h := h.2.2
  have e := hs.1
  rw [e]
  split at h
  · split at h
    · rename_i ho; exact ⟨h.1, h.2.1, hK _ _ _ h.2.2 (hs.os _)⟩
    · rename_i ho
      split at h
      · rename_i hm; (try simp only [hm]); exact ⟨h.1, h.2.1, h.2.2.1, h.2.2.2.1, hK _ _ _ h.2.2.2.2 (hs.os _)⟩
      · exact h.elim
    · exact ⟨h.1, h.2.1, h.2.2.1, h.2.2.2.1, hK _ _ _ h.2.2.2.2 (hs.os _)⟩
    · exact h.elim
  · exact h.elim

theorem opK_env {U : Nat → Prop} {op : Op} {s s2 : St} {K K2 : V → St → Prop} (hK : SimK U K K2) (hs : Sim U s s2) (he : ∀ x ∈ op.operands.toList, ev s2.env x = ev s.env x) (h : opK T nF s op K) : opK T nF s2 op K2 := by
  by_cases hq : quietOp op = true
  · have h' : opK T nF ⟨s.env, s.os⟩ op (fun v _ => K v s) := by
      cases op with
      | call c => obtain ⟨callee, args, ats⟩ := c; cases callee with
        | builtin b => cases b <;> first
          | exact h
          | (simp [quietOp] at hq; done)
        | _ => simp [quietOp] at hq
      | slice t x lo hi mx => cases mx <;> exact h
      | unOp op t x => cases op <;> exact h
      | _ => first
        | exact h
        | (simp [quietOp] at hq; done)
    obtain ⟨v, h1, h2⟩ := quiet_det hq h'
    have := h2 s2.env he K2 (hK _ _ _ h1 ⟨rfl, hs.2⟩)
    rw [← hs.1] at this
    exact this
  · have e := hs.1
    cases op with
    | alloc t =>
      simp only [opK] at h ⊢
      split at h
      · rename_i i hi
        rw [e]
        exact hK _ _ _ h (hs.os _)
      · exact h.elim
    | box t x =>
      simp only [opK] at h ⊢
      rw [he x (by simp [Op.operands]), e]
      exact ⟨h.1, hK _ _ _ h.2 (hs.os _)⟩
    | buildSlice t len parts =>
      simp only [opK] at h ⊢
      have e1 : (parts.toList.map fun x => (x.1, ev s2.env x.2)) = parts.toList.map fun x => (x.1, ev s.env x.2) :=
        List.map_congr_left fun z hz => by rw [he z.2 (by simp [Op.operands]; exact ⟨z.1, by simpa using hz⟩)]
      rw [e1, e]
      split at h
      · split at h
        · split at h
          · split at h
            · rename_i h1 _ _ h2 _ _ h3 _ _ _ h4
              (try simp only [h1, h2, h3, h4])
              exact ⟨h.1, h.2.1, hK _ _ _ h.2.2 (hs.os _)⟩
            · exact h.elim
          · exact h.elim
        · exact h.elim
      · exact h.elim
    | store t a x =>
      simp only [opK] at h ⊢
      rw [he a (by simp [Op.operands]), he x (by simp [Op.operands])]
      split at h
      · exact storeK_env hK hs h
      · exact h.elim
    | makeSlice t l c =>
      simp only [opK] at h ⊢
      rw [he l (by simp [Op.operands]), he c (by simp [Op.operands]), e]
      split at h
      · split at h
        · rename_i h1 h2 h3
          (try simp only [h1, h2, h3])
          exact ⟨h.1, h.2.1, h.2.2.1, h.2.2.2.1, h.2.2.2.2.1, hK _ _ _ h.2.2.2.2.2 (hs.os _)⟩
        · exact h.elim
      · exact h.elim
    | call c =>
      obtain ⟨callee, args, ats⟩ := c
      cases callee with
      | builtin b =>
        cases b <;> first
          | (simp only [opK] at h; done)
          | (simp [quietOp] at hq; done)
          | skip
        have hop : (Op.call { callee := .builtin .append, args, argTypes := ats }).operands.toList = args.toList := by simp [Op.operands, Call.operands]
        simp only [opK] at h ⊢
        split at h
        · rename_i t t' x y h1 h2
          rw [he x (by rw [hop, h2]; simp), he y (by rw [hop, h2]; simp), e]
          split at h
          · split at h
            · rename_i h3 h4 _ _ h5
              (try simp only [h3, h4, h5])
              exact ⟨h.1, appendK_env hK hs h.2⟩
            · exact h.elim
          · exact h.elim
        · exact h.elim
      | value f => simp only [opK] at h
      | invoke r m => simp only [opK] at h
    | _ => first
      | (simp only [opK] at h; done)
      | (simp [quietOp] at hq; done)

theorem appendTK_env {U : Nat → Prop} {ti : TI} {s s2 : St} {x : V} {news : List V} {K K2 : V → St → Prop} (hK : SimK U K K2) (hs : Sim U s s2) (h : appendTK nF ti s x news K) : appendTK nF ti s2 x news K2 := by
  unfold appendTK at *
  refine ⟨h.1, h.2.1, h.2.2.1, ?_⟩
  have h := h.2.2.2
  have e := hs.1
  split at h
  · split at h
    · rename_i ho
      rw [e, ho]
      refine ⟨h.1, h.2.1, h.2.2.1, h.2.2.2.1, h.2.2.2.2.1, hK _ _ _ h.2.2.2.2.2 ⟨?_, (hs.kill _).2⟩⟩
      simp only
      rw [(hs.kill _).1]
    · exact h.elim
  · exact h.elim

theorem treeK_env {U : Nat → Prop} {op : Op} {s s2 : St} {K K2 : V → St → Prop} (hK : SimK U K K2) (hs : Sim U s s2) (he : ∀ x ∈ op.operands.toList, ev s2.env x = ev s.env x) (h : treeK T nF s op K) : treeK T nF s2 op K2 := by
  have e := hs.1
  cases op with
  | buildSlice t len parts =>
    simp only [treeK] at h ⊢
    have e1 : (parts.toList.map fun x => (x.1, ev s2.env x.2)) = parts.toList.map fun x => (x.1, ev s.env x.2) :=
      List.map_congr_left fun z hz => by rw [he z.2 (by simp [Op.operands]; exact ⟨z.1, by simpa using hz⟩)]
    rw [e1, e]
    split at h
    · split at h
      · split at h
        · rename_i h1 _ _ h2 _ _ h3
          (try simp only [h1, h2, h3])
          exact ⟨h.1, h.2.1, h.2.2.1, hK _ _ _ h.2.2.2 (hs.os _)⟩
        · exact h.elim
      · exact h.elim
    · exact h.elim
  | call c =>
    obtain ⟨callee, args, ats⟩ := c
    cases callee with
    | builtin b =>
      cases b <;> first
        | (simp only [treeK] at h; done)
        | skip
      have hop : (Op.call { callee := .builtin .append, args, argTypes := ats }).operands.toList = args.toList := by simp [Op.operands, Call.operands]
      simp only [treeK] at h ⊢
      split at h
      · rename_i t t' x y h1 h2
        rw [he x (by rw [hop, h2]; simp), he y (by rw [hop, h2]; simp), e]
        split at h
        · split at h
          · rename_i h3 h4 _ _ h5
            (try simp only [h3, h4, h5])
            exact ⟨h.1, appendTK_env hK hs h.2⟩
          · exact h.elim
        · exact h.elim
      · exact h.elim
    | value f => simp only [treeK] at h
    | invoke r m => simp only [treeK] at h
  | _ => simp only [treeK] at h

theorem op1K_env {U : Nat → Prop} {o : Oper} {s s2 : St} {K : St → Prop} (hs : Sim U s s2) (he : ∀ x ∈ o.op.operands.toList, ev s2.env x = ev s.env x) (h : op1K T C nF o s K) : op1K T C nF o s2 (fun t2 => ∃ t, K t ∧ Sim U t t2) := by
  obtain ⟨dst, op, ty, pos, after, gd⟩ := o
  have gen : opK T nF s op (fun v s => K (s.put dst v)) → opK T nF s2 op (fun v s2 => ∃ t, K t ∧ Sim U t (s2.put dst v)) := by
    intro h
    exact opK_env (fun v t t2 k1 k2 => ⟨_, k1, k2.put dst v⟩) hs he h
  cases op with
  | binOp op t x y t2 =>
    simp only [op1K] at h ⊢
    have e1 := he x (by simp [Op.operands])
    have e2 := he y (by simp [Op.operands])
    rw [e1, e2]
    rcases h with h | ⟨n, h1, h2, h3, h4⟩
    · obtain ⟨v, g1, g2⟩ := binK_det h
      exact .inl (g2 _ ⟨_, g1, hs.put dst v⟩)
    · refine .inr ⟨n, h1, h2, h3, fun b hb => ?_⟩
      obtain ⟨v, g1, g2⟩ := eqneK_det (h4 b hb)
      exact g2 _ ⟨_, g1, hs.put dst v⟩
  | call c =>
    obtain ⟨callee, args, ats⟩ := c
    cases callee with
    | value f =>
      simp only [op1K] at h ⊢
      simp only [Op.operands, Call.operands] at he
      have e1 : ev s2.env f = ev s.env f := he f (by simp)
      have e2 : args.toList.map (ev s2.env) = args.toList.map (ev s.env) := List.map_congr_left fun z hz => he z (by simp; exact .inr (by simpa using hz))
      have hk : ∀ n vs, callK C s n vs (fun v s => K (s.put dst v)) → callK C s2 n vs (fun v s2 => ∃ t, K t ∧ Sim U t (s2.put dst v)) := by
        intro n vs h
        unfold callK at h ⊢
        rw [hs.1]
        rcases h with ⟨ds, l, r, N, h1, h2, h3, h4⟩ | ⟨r, os', h1, h2⟩ | ⟨ds, l, r, N, h1, h2, h5, h3, h4⟩
        · exact .inl ⟨ds, l, r, N, h1, h2, h3, _, h4, (hs.os _).put dst _⟩
        · exact .inr (.inl ⟨r, os', h1, _, h2, (hs.os _).put dst _⟩)
        · exact .inr (.inr ⟨ds, l, r, N, h1, h2, h5, h3, _, h4, (hs.os _).put dst _⟩)
      unfold calleeK at h ⊢
      rw [e1, e2]
      split at h
      · exact hk _ _ h
      · exact hk _ _ h
      · exact h.elim
    | builtin b =>
      cases b <;> first
        | exact gen h
        | (rcases h with h | h
           · exact .inl (gen h)
           · exact .inr (treeK_env (fun v t t2 k1 k2 => ⟨_, k1, k2.put dst v⟩) hs he h))
    | invoke r m => exact gen h
  | buildSlice t len parts =>
    rcases h with h | h
    · exact .inl (gen h)
    · exact .inr (treeK_env (fun v t t2 k1 k2 => ⟨_, k1, k2.put dst v⟩) hs he h)
  | _ => exact gen h

end
end Go.PL

/- PlDraw6 -/
namespace Go.PL
open Go

section
variable {P : Program} {T : Tab} [TOk T P] {C : Call} {gl : GL} [TG T gl]

/-- What the check says. -/
structure SFacts (all : Array Oper) (ns : List Nat) : Prop where
  back : ∀ j i, j < all.size → i ∈ waits all all.size j → i < j
  quiet : ∀ j i, j < all.size → j ∉ ns → i ∈ waits all all.size j → i ∉ ns
  reads : ∀ i j oi oj t, i ∉ ns → all[i]? = some oi → all[j]? = some oj → oi.dst = some t → t ∈ readTmps all oj → i ∈ waits all all.size j
  own : ∀ i j oi oj t, i ∉ ns → all[i]? = some oi → all[j]? = some oj → oi.dst = some t → oj.dst = some t → i = j

theorem lt_of_some {α : Type} {a : Array α} {i : Nat} {x : α} (h : a[i]? = some x) : i < a.size := by
  rcases Nat.lt_or_ge i a.size with q | q
  · exact q
  · rw [Array.getElem?_eq_none q] at h; cases h

theorem sFacts {all : Array Oper} {ns : List Nat} {t : OT} (h : drawSOk all ns t = true) : SFacts all ns ∧ headsOk all ns [] t = true ∧ treeSub all ns [] t = true ∧ ∀ i ∈ ns, i < all.size := by
  unfold drawSOk at h
  simp only [Bool.and_eq_true, List.all_eq_true, List.mem_range, Bool.or_eq_true, decide_eq_true_eq, List.contains_iff_mem, Bool.not_eq_true', List.contains_eq_mem, decide_eq_false_iff_not] at h
  obtain ⟨⟨⟨h1, h2⟩, h3⟩, h4⟩ := h
  have key : ∀ i j oi oj t, i ∉ ns → all[i]? = some oi → all[j]? = some oj → oi.dst = some t → (t ∉ readTmps all oj ∨ i ∈ waits all all.size j) ∧ (i = j ∨ oj.dst ≠ some t) := by
    intro i j oi oj t hi ho1 ho2 ht
    rcases (h1 j (lt_of_some ho2)).2 i (lt_of_some ho1) with h4 | h4
    · exact absurd h4 hi
    · rw [ho1, ho2] at h4
      have h5 : (t ∉ readTmps all oj ∨ i ∈ waits all all.size j) ∧ ((i == j) = true ∨ (oj.dst == some t) = false) := by
        simpa [ht] using h4
      refine ⟨h5.1, h5.2.imp (fun h => by simpa using h) fun h e => ?_⟩
      rw [e] at h
      simp at h
  refine ⟨⟨fun j i hj hi => (h1 j hj).1.1 i hi, fun j i hj hn hi => ?_, fun i j oi oj t hi ho1 ho2 ht hr => ?_, fun i j oi oj t hi ho1 ho2 ht hr => ?_⟩, h2, h3, h4⟩
  · rcases (h1 j hj).1.2 with h4 | h4
    · exact absurd h4 hn
    · exact h4 i hi
  · rcases (key i j oi oj t hi ho1 ho2 ht).1 with h4 | h4
    · exact absurd hr h4
    · exact h4
  · rcases (key i j oi oj t hi ho1 ho2 ht).2 with h4 | h4
    · exact h4
    · exact absurd hr h4

/-- The quiet ones, in their order: what each yields, at the end of it. -/
theorem quiet_some {nF : Nat} {all : Array Oper} {ns : List Nat} (hF : SFacts all ns) {os : List Ob} {K : St → Prop} : ∀ (d i : Nat) (env : List (Nat × V)), i + d = all.size →
    quietK T C nF all (qFrom ns i (all.toList.drop i)) ⟨env, os⟩ K →
    ∃ env', K ⟨env', os⟩ ∧ (∀ t, (∀ k o, i ≤ k → k ∉ ns → all[k]? = some o → o.dst ≠ some t) → look env' t = look env t) ∧
      (∀ k o, i ≤ k → k ∉ ns → all[k]? = some o → ∃ v, Yields T C nF all os env' o v ∧ ∀ t, o.dst = some t → look env' t = v)
  | 0, i, env, hi, h => by
    rw [List.drop_eq_nil_of_le (by simp; omega)] at h
    simp only [qFrom, quietK] at h
    refine ⟨env, h, fun _ _ => rfl, fun k o h1 _ h3 => ?_⟩
    have := lt_of_some h3
    omega
  | d + 1, i, env, hi, h => by
    have hlt : i < all.toList.length := by simp; omega
    have ho : all[i]? = some all.toList[i] := by simp [show i < all.size by omega]
    rw [List.drop_eq_getElem_cons hlt] at h
    simp only [qFrom] at h
    cases hn : ns.contains i with
    | true =>
      rw [hn, cond_true] at h
      have hin : i ∈ ns := by simpa using hn
      obtain ⟨env', q1, q2, q3⟩ := quiet_some hF d (i + 1) env (by omega) h
      have ne : ∀ {k}, i ≤ k → k ∉ ns → i + 1 ≤ k := by
        intro k h1 h2
        rcases Nat.lt_or_ge i k with h3 | h3
        · exact h3
        · exact absurd hin (by rw [show i = k by omega]; exact h2)
      exact ⟨env', q1, fun t ht => q2 t fun k o h1 => ht k o (by omega), fun k o h1 h2 h3 => q3 k o (ne h1 h2) h2 h3⟩
    | false =>
      rw [hn, cond_false] at h
      simp only [quietK] at h
      have hin : i ∉ ns := by simpa using hn
      generalize all.toList[i] = o at ho h
      obtain ⟨v, hy, hk⟩ := yields_of h
      have hk' : quietK T C nF all (qFrom ns (i + 1) (all.toList.drop (i + 1))) ⟨(St.put ⟨env, os⟩ o.dst v).env, os⟩ K := by
        have e : ∀ u, St.put ⟨env, os⟩ o.dst u = ⟨(St.put ⟨env, os⟩ o.dst u).env, os⟩ := by intro u; cases o.dst <;> rfl
        rcases hk with hk | ⟨rfl, hk⟩ <;> rw [e] at hk <;> exact hk
      obtain ⟨env', q1, q2, q3⟩ := quiet_some hF d (i + 1) _ (by omega) hk'
      have put_ne : ∀ t, o.dst ≠ some t → look (St.put ⟨env, os⟩ o.dst v).env t = look env t := by
        intro t ht
        cases hd : o.dst with
        | none => rfl
        | some u =>
          simp only [St.put, look]
          have hb : Nat.beq u t = false := by cases hb : Nat.beq u t with | false => rfl | true => exact absurd (by rw [hd, Nat.eq_of_beq_eq_true hb]) ht
          rw [hb, cond_false]
      refine ⟨env', q1, fun t ht => ?_, fun k o' h1 h2 h3 => ?_⟩
      · rw [q2 t fun k o h1 => ht k o (by omega), put_ne t (ht i o (Nat.le_refl _) hin ho)]
      · by_cases hki : k = i
        · subst hki
          rw [ho] at h3; cases h3
          refine ⟨v, fun env2 he => hy env2 fun t ht => ?_, fun t ht => ?_⟩
          · rw [he t ht, q2 t fun k0 o4 h4 h5 h6 h7 => ?_, put_ne t fun e => ?_]
            · have := hF.back _ _ (lt_of_some ho) (hF.reads k k o o t hin ho ho e ht)
              omega
            · have := hF.back _ _ (lt_of_some ho) (hF.reads k0 k o4 o t h5 h6 ho h7 ht)
              omega
          · rw [q2 t fun k0 o4 h4 h5 h6 h7 => ?_]
            · simp only [St.put, ht, look, Nat.beq_refl, cond_true]
            · have := hF.own k0 k o4 o t h5 h6 ho h7 ht
              omega
        · exact q3 k o' (by omega) h2 h3

theorem same_dst {o : Oper} {s : St} {v : V} (h : same o.dst (s.put o.dst v) s) : ∀ t, o.dst = some t → look s.env t = v := by
  intro t ht
  rw [ht] at h
  simp only [same, St.put, look, Nat.beq_refl, cond_true] at h
  exact h.symm

theorem late_yields {nF : Nat} {all : Array Oper} {o : Oper} {s : St} (h : lateK T C nF all o s) : ∃ v, Yields T C nF all s.os s.env o v ∧ ∀ t, o.dst = some t → look s.env t = v := by
  obtain ⟨v, h1, h2⟩ := yields_of (os := s.os) (env := s.env) h
  refine ⟨v, h1, ?_⟩
  rcases h2 with h2 | ⟨rfl, h2⟩ <;> exact same_dst h2

theorem lates_get {nF : Nat} {all : Array Oper} {s : St} : ∀ {l : List Nat}, latesK T C nF all l s → ∀ k ∈ l, ∀ o, all[k]? = some o → lateK T C nF all o s
  | k0 :: r, h, k, hk, o, ho => by
    rcases List.mem_cons.1 hk with rfl | hk
    · have := h.1; rw [ho] at this; exact this
    · exact lates_get h.2 k hk o ho

theorem tree_op {nF : Nat} {all : Array Oper} {ns : List Nat} {K : St → Prop} {i : Nat} {o : Oper} (ho : all[i]? = some o) : ∀ {t : OT} {N : List Nat} {s : St}, treeSub all ns N t = true → i ∈ t.heads → trK T C nF all t s K →
    ∃ late t', (∀ k, k < all.size → k ∉ ns → (∀ n ∈ i :: N, k ∉ waits all all.size n) → k ∈ late) ∧ headsOk all ns (i :: N) t' = true ∧ treeSub all ns (i :: N) t' = true ∧
      guardK all o s (op1K T C nF o s fun s' => latesK T C nF all late s' ∧ trK T C nF all t' s' K) (latesK T C nF all late (s.put o.dst undefV) ∧ trK T C nF all t' (s.put o.dst undefV) K)
  | .done, N, s, _, h, _ => by cases h
  | .op j late t, N, s, h1, h2, h3 => by
    obtain rfl : i = j := by simpa [OT.heads] using h2
    simp only [treeSub, Bool.and_eq_true, List.all_eq_true, List.mem_range, Bool.or_eq_true, List.contains_iff_mem, List.any_eq_true] at h1
    obtain ⟨⟨⟨_, h4⟩, h5⟩, h6⟩ := h1
    refine ⟨late, t, fun k hk hn hw => ?_, h5, h6, ?_⟩
    · rcases h4 k hk with (h7 | h7) | ⟨n, h7, h8⟩
      · exact absurd h7 hn
      · exact h7
      · exact absurd h8 (hw n h7)
    · simp only [trK, ho] at h3; exact h3
  | .both a b, N, s, h1, h2, h3 => by
    simp only [treeSub, Bool.and_eq_true] at h1
    simp only [OT.heads, List.mem_append] at h2
    simp only [trK] at h3
    rcases h2 with h2 | h2
    · exact tree_op ho h1.1 h2 h3.1
    · exact tree_op ho h1.2 h2 h3.2

theorem tree_done {nF : Nat} {all : Array Oper} {ns : List Nat} {K : St → Prop} : ∀ {t : OT} {N : List Nat} {s : St}, treeSub all ns N t = true → (∀ i ∈ ns, i ∈ N) → trK T C nF all t s K → K s
  | .done, N, s, _, _, h => h
  | .op i late t, N, s, h1, h2, _ => by
    simp only [treeSub, Bool.and_eq_true, List.contains_iff_mem, Bool.not_eq_true', List.contains_eq_mem, decide_eq_false_iff_not, decide_eq_true_eq] at h1
    exact absurd (h2 i h1.1.1.1.1) h1.1.1.1.2
  | .both a b, N, s, h1, h2, h3 => by
    simp only [treeSub, Bool.and_eq_true] at h1
    exact tree_done h1.1 h2 h3.1

/-- A region that draws its order, of which some operations are quiet. -/
theorem drawS_sound {ro : Option Nat} {mm : Nat} {nF nt : Nat} {g : Ghost} {all : Array Oper} {ns : List Nat} {K : St → Prop} {Q : Exit → Act → World → Prop}
    (hC : ∀ f a os r os', C f a os r os' → Says P gl f a os r os') (hg : g.os0.length = nF) (hG : GOk gl g.w0 g.Pr0 g.p0 g.os0) (hF : SFacts all ns) (hd : ∀ o ∈ all, dOk nt o = true) (hns : ∀ i ∈ ns, i < all.size)
    (hK : ∀ s a' w', K s → Rel g s a' w' → a'.tmps.size = nt → Q .normal a' w') :
    ∀ (fuel : Nat) (L : Array Bool) (a : Act) (w : World), L.size = all.size → (∀ j o, L.getD j false = true → all[j]? = some o → ∀ e ∈ o.after, Region.binds .any e = true → L.getD e.on false = true) →
      (∃ l : List Nat, l.length ≤ fuel ∧ ∀ j, j < all.size → L.getD j false = false → j ∈ l) → a.tmps.size = nt →
      (∃ N t s env2, (∀ i ∈ ns, L.getD i false = true ↔ i ∈ N) ∧ (∀ i ∈ N, i ∈ ns) ∧ headsOk all ns N t = true ∧ treeSub all ns N t = true ∧ trK T C nF all t s K ∧
        (∀ k o, k ∉ ns → all[k]? = some o → (∀ n ∈ N, k ∉ waits all all.size n) → ∃ v, Yields T C nF all s.os s.env o v ∧ ∀ t, o.dst = some t → look s.env t = v) ∧
        (∀ t, ¬(∃ k o, k ∉ ns ∧ L.getD k false = false ∧ all[k]? = some o ∧ o.dst = some t) → look env2 t = look s.env t) ∧ Rel g ⟨env2, s.os⟩ a w) →
      wpAnyIn (FR ro) mm P .any all Q fuel L a w := by
  have done : ∀ (L : Array Bool) (a : Act) (w : World), a.tmps.size = nt →
      (∃ N t s env2, (∀ i ∈ ns, L.getD i false = true ↔ i ∈ N) ∧ (∀ i ∈ N, i ∈ ns) ∧ headsOk all ns N t = true ∧ treeSub all ns N t = true ∧ trK T C nF all t s K ∧
        (∀ k o, k ∉ ns → all[k]? = some o → (∀ n ∈ N, k ∉ waits all all.size n) → ∃ v, Yields T C nF all s.os s.env o v ∧ ∀ t, o.dst = some t → look s.env t = v) ∧
        (∀ t, ¬(∃ k o, k ∉ ns ∧ L.getD k false = false ∧ all[k]? = some o ∧ o.dst = some t) → look env2 t = look s.env t) ∧ Rel g ⟨env2, s.os⟩ a w) →
      (∀ j, j < all.size → L.getD j false = true) → Q .normal a w := by
    rintro L a w hn ⟨N, t, s, env2, h1, _, h2, h3, h4, _, h6, h7⟩ hall
    refine hK s a w (tree_done h3 (fun i hi => (h1 i hi).1 (hall i (hns i hi))) h4) (Rel.look (env := env2) (env2 := s.env) (fun t => ?_) h7) hn
    refine (h6 t ?_).symm
    rintro ⟨k, o, _, k2, k3, _⟩
    rw [hall k (lt_of_some k3)] at k2; cases k2
  have min : ∀ (L : Array Bool), L.size = all.size → (∀ j o, L.getD j false = true → all[j]? = some o → ∀ e ∈ o.after, Region.binds .any e = true → L.getD e.on false = true) → Region.ready .any all L = [] → ∀ j, j < all.size → L.getD j false = true := by
    intro L hs hcl hr j
    induction j using Nat.strongRecOn with
    | _ j ih =>
      intro hj
      cases hL : L.getD j false with
      | true => rfl
      | false =>
        exfalso
        have : j ∈ Region.ready .any all L := mem_ready.2 ⟨hj, by rw [getD_listed hs hj]; exact hL, fun o ho e he hb => by
          have hw : e.on ∈ waits all all.size j := by
            obtain ⟨k, hk⟩ : ∃ k, all.size = k + 1 := ⟨all.size - 1, by omega⟩
            rw [hk]
            unfold waits
            rw [ho]
            simp only [Option.map_some, Option.getD_some, List.mem_flatMap]
            exact ⟨e, by simpa using he, by rw [if_pos hb]; simp⟩
          have hlt := hF.back j e.on hj hw
          exact ih e.on hlt (by omega)⟩
        rw [hr] at this; cases this
  intro fuel
  induction fuel with
  | zero =>
    rintro L a w hs hcl ⟨l, hl, hmem⟩ hn hD
    have hall : ∀ j, j < all.size → L.getD j false = true := by
      intro j hj
      cases h : L.getD j false with
      | true => rfl
      | false =>
        have := hmem j hj h
        have hnil : l = [] := List.eq_nil_of_length_eq_zero (by omega)
        rw [hnil] at this; cases this
    refine ⟨?_, done L a w hn hD hall⟩
    rw [List.eq_nil_iff_forall_not_mem]
    intro i hi
    obtain ⟨h1, h2, _⟩ := mem_ready.1 hi
    rw [getD_listed hs h1, hall i h1] at h2; cases h2
  | succ fuel ih =>
    rintro L a w hs hcl ⟨l, hl, hmem⟩ hn hD
    refine ⟨fun hr => done L a w hn hD (min L hs hcl hr), fun i hi => ?_⟩
    obtain ⟨h1, h2, h3⟩ := mem_ready.1 hi
    rw [getD_listed hs h1] at h2
    have ho : all[i]? = some all[i] := by simp [h1]
    have hdo : dOk nt all[i] = true := hd _ (by simp)
    have hs' : (L.setIfInBounds i true).size = all.size := by simpa using hs
    have hcl' : ∀ j o, (L.setIfInBounds i true).getD j false = true → all[j]? = some o → ∀ e ∈ o.after, Region.binds .any e = true → (L.setIfInBounds i true).getD e.on false = true := by
      intro j o hj hoj e he hb
      rw [getD_set hs h1] at hj ⊢
      simp only [Bool.or_eq_true, decide_eq_true_eq] at hj ⊢
      rcases hj with hj | rfl
      · exact .inl (hcl j o hj hoj e he hb)
      · exact .inl (h3 o hoj e he hb)
    have hl' : ∃ l : List Nat, l.length ≤ fuel ∧ ∀ j, j < all.size → (L.setIfInBounds i true).getD j false = false → j ∈ l := by
      refine ⟨l.erase i, ?_, fun j hj hLj => ?_⟩
      · rw [List.length_erase_of_mem (hmem i h1 h2)]; omega
      · rw [getD_set hs h1] at hLj
        simp only [Bool.or_eq_false_iff, decide_eq_false_iff_not] at hLj
        exact (List.mem_erase_of_ne hLj.2).2 (hmem j hj hLj.1)
    have hwl : ∀ {x}, x ∈ waits all all.size i → L.getD x false = true := fun hx => waits_ready (listed := fun j => L.getD j false) hcl ho (fun e he hb => h3 _ ho e he hb) hx
    generalize all[i] = o at ho hdo
    obtain ⟨N, t, s, env2, e1, eN, e2, e3, e4, e5, e6, e7⟩ := hD
    have rd : ∀ t ∈ readTmps all o, ¬(∃ k o, k ∉ ns ∧ L.getD k false = false ∧ all[k]? = some o ∧ o.dst = some t) := by
      rintro t ht ⟨k, ok, k1, k2, k3, k4⟩
      rw [hwl (hF.reads k i ok o t k1 k3 ho k4 ht)] at k2; cases k2
    by_cases hin : i ∈ ns
    · -- one that is not quiet
      have hiN : i ∉ N := fun h => by rw [(e1 i hin).2 h] at h2; cases h2
      have hhd : i ∈ t.heads := by
        have := List.all_eq_true.1 e2 i hin
        simp only [Bool.or_eq_true, List.contains_iff_mem, List.any_eq_true, Bool.and_eq_true, Bool.not_eq_true', List.contains_eq_mem, decide_eq_false_iff_not, decide_eq_true_eq] at this
        rcases this with (h | ⟨x, k1, k2, k3⟩) | h
        · exact absurd h hiN
        · exact absurd ((e1 x k2).1 (hwl k1)) k3
        · exact h
      obtain ⟨late, t', q1, q2, q3, q4⟩ := tree_op ho e3 hhd e4
      have hsim : Sim (fun t => ∃ k o, k ∉ ns ∧ L.getD k false = false ∧ all[k]? = some o ∧ o.dst = some t) s ⟨env2, s.os⟩ := ⟨rfl, e6⟩
      have hev : ∀ x ∈ o.op.operands.toList, ev env2 x = ev s.env x := ev_of_tmps (all := all) fun t ht => e6 t (rd t ht)
      have hnext : ∀ s2 a' w', (∃ s', (latesK T C nF all late s' ∧ trK T C nF all t' s' K) ∧ Sim (fun t => ∃ k o, k ∉ ns ∧ L.getD k false = false ∧ all[k]? = some o ∧ o.dst = some t) s' s2) → Rel g s2 a' w' → a'.tmps.size = nt →
          wpAnyIn (FR ro) mm P .any all Q fuel (L.setIfInBounds i true) a' w' := by
        rintro ⟨envx, osx⟩ a' w' ⟨s', ⟨r1, r2⟩, r3, r4⟩ r5 r6
        obtain rfl : osx = s'.os := r3
        refine ih _ a' w' hs' hcl' hl' r6 ⟨i :: N, t', s', envx, fun j hj => ?_, fun j hj => ?_, q2, q3, r2, fun k ok k1 k2 k3 => late_yields (lates_get r1 k (q1 k (lt_of_some k2) k1 k3) ok k2), fun t ht => r4 t ?_, r5⟩
        · rw [getD_set hs h1]
          simp only [Bool.or_eq_true, decide_eq_true_eq, List.mem_cons, e1 j hj]
          exact Or.comm
        · rcases List.mem_cons.1 hj with rfl | hj
          · exact hin
          · exact eN j hj
        · rintro ⟨k, ok, k1, k2, k3, k4⟩
          refine ht ⟨k, ok, k1, ?_, k3, k4⟩
          rw [getD_set hs h1, k2]
          simp
          rintro rfl; exact k1 hin
      unfold wpOpIn
      rw [ho]
      simp only
      rcases guard_sound e7 (guard_congr (os := s.os) (fun t ht => e6 t (rd t ht)) (fun h => h) (fun h => h) q4) with ⟨g1, g2⟩ | ⟨g1, g2⟩
      · rw [if_pos g1]
        exact op1_sound hC hg hG e7 hn hdo (op1K_env hsim hev g2) hnext
      · rw [if_neg (by rw [g1]; simp)]
        refine ⟨fun _ _ => trivial, ?_⟩
        exact hnext _ _ w ⟨_, g2, hsim.put o.dst undefV⟩ (e7.undef (by rw [hn]; exact hdo)) (by rw [put_size]; exact hn)
    · -- a quiet one
      obtain ⟨v, hy, hv⟩ := e5 i o hin ho fun n hnN hw => by
        have hLn := (e1 n (eN n hnN)).2 hnN
        have : L.getD i false = true := waits_listed (listed := fun j => L.getD j false) hcl _ n i hLn hw
        rw [h2] at this; cases this
      refine yield_sound hC hg hG ho e7 hn hdo hy (fun t ht => e6 t (rd t ht)) fun a' w' q1 q2 => ?_
      have e : St.put ⟨env2, s.os⟩ o.dst v = ⟨(St.put ⟨env2, s.os⟩ o.dst v).env, s.os⟩ := by cases o.dst <;> rfl
      rw [e] at q1
      refine ih _ a' w' hs' hcl' hl' q2 ⟨N, t, s, _, fun j hj => ?_, eN, e2, e3, e4, e5, fun t ht => ?_, q1⟩
      · rw [getD_set hs h1]
        simp only [Bool.or_eq_true, decide_eq_true_eq]
        constructor
        · rintro (h | rfl)
          · exact (e1 j hj).1 h
          · exact absurd hj hin
        · exact fun h => .inl ((e1 j hj).2 h)
      · by_cases hdt : o.dst = some t
        · rw [hv t hdt, hdt]
          simp only [St.put, look, Nat.beq_refl, cond_true]
        · have : look (St.put ⟨env2, s.os⟩ o.dst v).env t = look env2 t := by
            cases hd : o.dst with
            | none => rfl
            | some u =>
              simp only [St.put, look]
              have hb : Nat.beq u t = false := by cases hb : Nat.beq u t with | false => rfl | true => exact absurd (by rw [hd, Nat.eq_of_beq_eq_true hb]) hdt
              rw [hb, cond_false]
          rw [this]
          refine e6 t ?_
          rintro ⟨k, ok, k1, k2, k3, k4⟩
          refine ht ⟨k, ok, k1, ?_, k3, k4⟩
          rw [getD_set hs h1, k2]
          simp
          rintro rfl
          rw [ho] at k3; cases k3
          exact hdt k4

end
end Go.PL

/- PlEnd -/
namespace Go.PL
open Go

section
variable {P : Program} {T : Tab} [TOk T P] {C : Call} {gl : GL} [TG T gl]

theorem drewn {w : World} {n : Nat} {Pr : Pro} : Stab w { w with drawn := n } Pr Pr := ⟨fun _ _ h => h, fun _ _ _ _ h => h⟩

theorem Mem.drewn {w : World} {n : Nat} {Pr : Pro} {p : Place} {os : List Ob} (h : Mem w Pr p os) : Mem { w with drawn := n } Pr p os :=
  ⟨h.prIn, h.blk, h.inj, fun o ob ho => (h.ob o ob ho).mono PL.drewn (.refl _ _) (fun _ => ⟨rfl, rfl, rfl, fun _ => Iff.rfl⟩) (fun _ _ _ h => ⟨h, rfl⟩), h.own⟩

theorem Rel.drewn {g : Ghost} {s : St} {a : Act} {w : World} {n : Nat} (h : Rel g s a w) : Rel g s a { w with drawn := n } := by
  obtain ⟨⟨Pr, p, h1, h2⟩, h0⟩ := h
  have h3 : Marks g.w0.heap.size { w with drawn := n } a.defers := by refine Marks.keep (w := w) (w' := { w with drawn := n }) ?_ h0; exact fun _ _ h => h
  exact ⟨⟨Pr, p, ⟨h1.mem.drewn, h1.frm.trans ⟨rfl, rfl, rfl, Nat.le_refl _, fun _ _ _ => rfl⟩, h1.stab.trans PL.drewn, h1.prN, h1.cmp, h1.own⟩, fun t => (h2 t).cmp PL.drewn (.refl _ _)⟩, h3⟩

theorem loop_sound {ro : Option Nat} {mm : Nat} {c : Code} {Q : Exit → Act → World → Prop} (I : Nat → Act → World → Prop) (round : ∀ n a w, I n a w → c.wpIn (FR ro) mm P (Exit.then (fun a' w' => ∃ m, m < n ∧ I m a' w') Q) a w) :
    ∀ (n : Nat) (a : Act) (w : World), I n a w → (Code.loop c).wpIn (FR ro) mm P Q a w := by
  intro n a w hI b k cs hro hb hr
  have key : ∀ n a w, I n a w →
      ∃ e a' w', Q e a' w' ∧ ArrivesIn (Machine.fenced P (FR ro)) P (lone (b.atR a (.code c :: .inLoop c :: k)) cs w) b k cs e a' w' := by
    intro n
    induction n using Nat.strongRecOn with
    | _ n ih =>
      intro a w hI
      obtain ⟨e, a₁, w₁, hq, harr⟩ := round n a w hI b (.inLoop c :: k) cs hro hb hr
      cases e with
      | normal =>
        obtain ⟨m, hlt, hI₁⟩ := hq
        obtain ⟨e₂, a₂, w₂, hq₂, harr₂⟩ := ih m hlt a₁ w₁ hI₁
        exact ⟨e₂, a₂, w₂, hq₂, .of_steps (StepsIn.trans harr (.one (fenced_calm hb hr rfl) stepR_inLoop)) harr₂⟩
      | exit id => exact ⟨_, a₁, w₁, hq, .pass (x := .inLoop c) rfl (fun _ _ => .inl (by simp)) harr⟩
      | goto l => exact ⟨_, a₁, w₁, hq, .pass (x := .inLoop c) rfl (fun _ _ => .inl (by simp)) harr⟩
      | ret => exact ⟨_, a₁, w₁, hq, .pass (x := .inLoop c) rfl (fun _ _ => .inl (by simp)) harr⟩
      | panic ch => exact ⟨_, a₁, w₁, hq, .pass (x := .inLoop c) rfl (fun _ _ => .inl (by simp)) harr⟩
      | outgrown => exact ⟨_, a₁, w₁, hq, .pass (x := .inLoop c) rfl (fun _ _ => .inl (by simp)) harr⟩
  obtain ⟨e, a', w', hq, harr⟩ := key n a w hI
  exact ⟨e, a', w', hq, .of_steps (.one (fenced_calm hb hr rfl) stepR_loop) harr⟩

theorem dstOk_region {nt id : Nat} {ops : Array Oper} {b : Bool} (h : dstOk nt (.region id ops b) = true) : ∀ o ∈ ops, dOk nt o = true := by
  simp only [dstOk] at h
  exact fun o ho => Array.all_eq_true_iff_forall_mem.1 h o ho

theorem envL_none {all : Array Oper} {vs : Nat → V} {env : List (Nat × V)} {S : Nat → Bool} : ∀ m, (∀ j, S j = false) → envL all vs env S m = env
  | 0, _ => rfl
  | n + 1, h => by simp only [envL, h n]; exact envL_none n h

theorem Wp.sound [ItOk T P] {nt : Nat} (hm : P.follows .mixedOrders = true) (hC : ∀ f a os r os', C f a os r os' → Says P gl f a os r os')
    {nF : Nat} {c : Code} {s : St} {Q : Ex → St → Prop} (h : Wp T C nF c s Q) : dstOk nt c = true → ∀ (g : Ghost) a w, g.os0.length = nF → GOk gl g.w0 g.Pr0 g.p0 g.os0 → Rel g s a w → a.tmps.size = nt → ∀ ro mm, (ro = none ∨ noRange c = true) → c.wpIn (FR ro) mm P (PostOf g nt Q) a w := by
  induction h with
  | weak hw _ ih => exact fun hd g a w hg hG hR hn ro mm hro => ih hd g a w hg hG (hw.rel hg hR) hn ro mm hro
  | mono _ hq ih =>
    refine fun hd g a w hg hG hR hn ro mm hro => wpIn_mono (ih hd g a w hg hG hR hn ro mm hro) ?_
    rintro e a w ⟨x, s, h1, h2, h3, h4⟩
    exact ⟨x, s, h1, hq _ _ h2, h3, h4⟩
  | skip h => exact fun _ g a w hg hG hR hn ro mm hro => wpIn_skip ⟨.normal, _, rfl, h, hR, hn⟩
  | label h => exact fun _ g a w hg hG hR hn ro mm hro => wpIn_label ⟨.normal, _, rfl, h, hR, hn⟩
  | exit h => exact fun _ g a w hg hG hR hn ro mm hro => wpIn_exit ⟨.exit _, _, rfl, h, hR, hn⟩
  | ret h => exact fun _ g a w hg hG hR hn ro mm hro => wpIn_ret ⟨.ret, _, rfl, h, hR, hn⟩
  | seq _ _ hx iha ihb =>
    intro hd g a w hg hG hR hn ro mm hro
    simp only [dstOk, Bool.and_eq_true] at hd
    refine wpIn_seq (wpIn_mono (iha hd.1 g a w hg hG hR hn ro mm (hro.imp_right fun h => by simp only [noRange, Bool.and_eq_true] at h; exact h.1)) ?_)
    rintro e a w ⟨x, s, rfl, h2, h3, h4⟩
    cases x with
    | normal => exact ihb s h2 hd.2 g a w hg hG h3 h4 ro mm (hro.imp_right fun h => by simp only [noRange, Bool.and_eq_true] at h; exact h.2)
    | exit n => exact ⟨.exit n, s, rfl, hx _ _ (by simp) h2, h3, h4⟩
    | ret => exact ⟨.ret, s, rfl, hx _ _ (by simp) h2, h3, h4⟩
  | @cond nF c x y s Q t ht h1 h2 ih1 ih2 =>
    intro hd g a w hg hG hR hn ro mm hro
    simp only [dstOk, Bool.and_eq_true] at hd
    obtain ⟨⟨Pr, p, hI, hE⟩, h0⟩ := id hR
    have hv := evalR hE c
    rw [ht] at hv
    have hv2 : a.eval c = .bool t := by
      generalize a.eval c = v at hv
      cases hv with
      | d h => cases h; rfl
    exact wpIn_cond_split hv2 (fun e => ih1 e hd.1 g a w hg hG hR hn ro mm (hro.imp_right fun h => by simp only [noRange, Bool.and_eq_true] at h; exact h.1)) (fun e => ih2 e hd.2 g a w hg hG hR hn ro mm (hro.imp_right fun h => by simp only [noRange, Bool.and_eq_true] at h; exact h.2))
  | @block nF id c s Q _ ih =>
    intro hd g a w hg hG hR hn ro mm hro
    refine wpIn_block (wpIn_mono (ih hd g a w hg hG hR hn ro mm hro) ?_)
    rintro e a w ⟨x, s, rfl, h2, h3, h4⟩
    cases x with
    | normal => exact ⟨.normal, s, rfl, h2, h3, h4⟩
    | ret => exact ⟨.ret, s, rfl, h2, h3, h4⟩
    | exit n =>
      simp only [blk] at h2
      simp only [exitOf, Exit.inBlock]
      cases hb : Nat.beq n id with
      | true =>
        rw [hb, cond_true] at h2
        rw [if_pos (Nat.eq_of_beq_eq_true hb)]
        exact ⟨.normal, s, rfl, h2, h3, h4⟩
      | false =>
        rw [hb, cond_false] at h2
        rw [if_neg (fun e => by rw [e, Nat.beq_refl] at hb; cases hb)]
        exact ⟨.exit n, s, rfl, h2, h3, h4⟩
  | @loop nF c s s0 Q I n hw hI _ ih =>
    intro hd g a w hg hG hR hn ro mm hro
    refine loop_sound (fun n a w => ∃ s, I n s ∧ Rel g s a w ∧ a.tmps.size = nt) ?_ n a w ⟨s0, hI, hw.rel hg hR, hn⟩
    rintro n a w ⟨s, h1, h2, h3⟩
    refine wpIn_mono (ih n s h1 hd g a w hg hG h2 h3 ro mm hro) ?_
    rintro e a w ⟨x, s, rfl, h2, h3, h4⟩
    cases x with
    | normal =>
      obtain ⟨m, s2, k1, k2, k3⟩ := h2
      exact ⟨m, k1, s2, k3, k2.rel hg h3, h4⟩
    | exit n => exact ⟨.exit n, s, rfl, h2, h3, h4⟩
    | ret => exact ⟨.ret, s, rfl, h2, h3, h4⟩
  | @region nF id ops s Q h =>
    intro hd g a w hg hG hR hn ro mm hro
    refine wpIn_region ?_
    rw [List.range_eq_range']
    exact opsK_sound (nt := nt) hC hg hG (dstOk_region hd) (fun s a w h1 h2 h3 => ⟨.normal, s, rfl, h1, h2, h3⟩) ops.size 0 s a w (by omega) hR hn (by simpa using h)
  | @draw nF id ops s Q m hdr h =>
    intro hd g a w hg hG hR hn ro mm hro
    refine wpIn_region_any hm ?_
    have hF := drawFacts hdr
    obtain ⟨vs, _, hy, hk⟩ := quiet_all (env := s.env) (os := s.os) hF.le m 0 (fun _ => .any) (by omega) (by simpa [envL] using h)
    refine draw_sound (nt := nt) hC hg hG hF (dstOk_region hd) (fun k o hk ho => hy k o (by omega) hk ho) hk (fun s a w h1 h2 h3 => ⟨.normal, s, rfl, h1, h2, h3⟩)
      ops.size (Array.replicate ops.size false) a _ (by simp) ?_ ⟨List.range ops.size, by simp, fun j hj _ => by simpa using hj⟩ hn (.inl ⟨?_, ?_⟩)
    · intro j o hj; simp [Array.getD] at hj
    · intro j _ hj; simp [Array.getD, hj]
    · refine Rel.look (fun t => ?_) (Rel.drewn hR)
      rw [envL_none m fun j => by simp [Array.getD]]
  | @drawS nF id ops s Q ns t hdr h =>
    intro hd g a w hg hG hR hn ro mm hro
    refine wpIn_region_any hm ?_
    obtain ⟨hF, f1, f2, f3⟩ := sFacts hdr
    obtain ⟨env', q1, q2, q3⟩ := quiet_some hF (os := s.os) ops.size 0 s.env (by omega) (by simpa using h)
    refine drawS_sound (nt := nt) hC hg hG hF (dstOk_region hd) f3 (fun s a w h1 h2 h3 => ⟨.normal, s, rfl, h1, h2, h3⟩)
      ops.size (Array.replicate ops.size false) a _ (by simp) ?_ ⟨List.range ops.size, by simp, fun j hj _ => by simpa using hj⟩ hn
      ⟨[], t, ⟨env', s.os⟩, s.env, (fun j _ => by simp [Array.getD]), (fun j hj => nomatch hj), f1, f2, q1, fun k o k1 k2 _ => q3 k o (Nat.zero_le _) k1 k2, fun u hu => (q2 u fun k o _ k1 k2 k3 => hu ⟨k, o, k1, by simp [Array.getD], k2, k3⟩).symm, Rel.drewn hR⟩
    intro j o hj; simp [Array.getD] at hj
  | @range nF f p0 p1 assign body s Q gf es I X M hbk hp hle hlen hf h0 ha hb hdone hstop iha ihb =>
    intro hd g a w hg hG hR hn ro mm hro
    rcases hro with rfl | hro
    · simp only [dstOk, Bool.and_eq_true] at hd
      obtain ⟨hps, hda, hdb, hna, hnb⟩ := hd
      have hp0 : p0 < nt := by
        have := (Array.all_eq_true_iff_forall_mem.1 hps) p0 (by simp)
        simpa [Nat.blt_eq] using this
      have hp1 : p1 < nt := by
        have := (Array.all_eq_true_iff_forall_mem.1 hps) p1 (by simp)
        simpa [Nat.blt_eq] using this
      exact range_sound hg hG gf es I X M hbk hp hle hlen hf h0 hp0 hp1
        (fun k os hk hI g a w hg hG hR hn l m => iha k os hk hI hda g a w hg hG hR hn (some l) m (.inr hna))
        (fun k os s' hk hI hM g a w hg hG hR hn l m => ihb k os s' hk hI hM hdb g a w hg hG hR hn (some l) m (.inr hnb)) hdone hstop hR hn
    · cases hro

end
end Go.PL

/- PlFn -/
namespace Go.PL
open Go

section
variable {P : Program} {T : Tab} [TOk T P] {gl : GL} [TG T gl]

/-- One result, read. -/
def resI (tmps : Array Value) : ResultVar → Sem Value
  | .tmp t => pure (tmps.getD t undef)
  | .cell a t => do loadVar t (← asAddr (tmps.getD a undef))

theorem results_eq (fn : Func) (tmps : Array Value) : results fn tmps = (fn.results.mapM (resI tmps) >>= fun vs => pure (if h : vs.size = 1 then vs[0] else .tuple vs)) := by
  unfold results
  congr 1

theorem resV_sound {g : Ghost} {s : St} {a : Act} {w : World} {Pr : Pro} {p : Place} (hM : Mem w Pr p s.os) (hE : EnvR w Pr p s.os a.tmps s.env) {x : ResultVar} {v : V} (h : resV T s x = some v) :
    ∃ u, (resI a.tmps x).run P w = .ok u w ∧ RelV w Pr p s.os v u := by
  cases x with
  | tmp t =>
    simp only [resV, Option.some.injEq] at h
    subst h
    exact ⟨_, rfl, hE t⟩
  | cell c t =>
    simp only [resV] at h
    split at h
    · rename_i i o e j hi hl
      have hx := hE c
      rw [hl] at hx
      split at h
      · rename_i cs fz ho
        split at h
        · rename_i hc
          obtain ⟨rfl, hc⟩ := hc
          simp only [Option.some.injEq] at h
          subst h
          generalize hax : a.tmps.getD c undef = av at hx
          cases hx with
          | ref hol hh =>
            have e := hh _ ho (by simp)
            simp only [Nat.zero_mul, Nat.zero_add] at e
            subst e
            obtain ⟨vs, et, g1, g2, g3, g4⟩ := hM.ob o _ ho
            obtain ⟨u, k1, k2⟩ := load_cells (P := P) (w := w) (Pr := Pr) (p := p) (st := s) hi (b := p.bl o) (off := j) (cs := cs.drop j) (by simp; omega) (fun m hm => by
              simp at hm
              obtain ⟨v, q1, q2, q3⟩ := g3 (j + m) (by omega)
              exact ⟨v, by simp [cellAt, World.cell?, g1, q1], by simpa using q3⟩)
            exact ⟨u, by simp [resI, hax, asAddr, k1], k2⟩
        · cases h
      · cases h
    · cases h

theorem resVs_sound {g : Ghost} {s : St} {a : Act} {w : World} {Pr : Pro} {p : Place} (hM : Mem w Pr p s.os) (hE : EnvR w Pr p s.os a.tmps s.env) :
    ∀ {l : List ResultVar} {vs : List V}, resVs T s l = some vs → ∃ us : List Value, (l.mapM (resI a.tmps)).run P w = .ok us w ∧ us.length = vs.length ∧ ∀ i (h1 : i < vs.length) (h2 : i < us.length), RelV w Pr p s.os vs[i] us[i]
  | [], vs, h => by
    simp only [resVs, Option.some.injEq] at h
    subst h
    exact ⟨[], by simp, rfl, fun i h1 => by simp at h1⟩
  | x :: r, vs, h => by
    simp only [resVs] at h
    split at h
    · rename_i v vs2 h1 h2
      simp only [Option.some.injEq] at h
      subst h
      obtain ⟨u, k1, k2⟩ := resV_sound (g := g) hM hE h1
      obtain ⟨us, q1, q2, q3⟩ := resVs_sound (g := g) hM hE h2
      refine ⟨u :: us, by simp [List.mapM_cons, k1, q1], by simp [q2], fun i h1 h2 => ?_⟩
      cases i with
      | zero => exact k2
      | succ i => exact q3 i (by simpa using h1) (by simpa using h2)
    · cases h

theorem asD_rel {w : World} {Pr : Pro} {p : Place} {os : List Ob} (hM : Mem w Pr p os) {v : V} {x : Value} (h : RelV w Pr p os v x) : RelV w Pr p os (asD os v) x := by
  unfold asD
  split
  · rename_i d l hl
    cases hf : l.all (frozen os) with
    | false => exact h
    | true =>
      rw [cond_true]
      refine .d (leaf_rel hM (.refl _ _) hl (fun o ho ob h1 h2 => ⟨fun j hj => ?_, fun sz es e => ?_⟩) h)
      rotate_left 1
      · have h3 := List.all_eq_true.1 hf o ho
        unfold frozen at h3
        subst e
        rw [h1] at h3; cases h3
      have h3 := List.all_eq_true.1 hf o ho
      unfold frozen at h3
      have h4 := hM.ob o ob h1
      rw [h1] at h3
      cases ob with
      | var cs fz =>
        obtain ⟨vs, et, g1, g2, g3, g4⟩ := h4
        exact (g4 j).2 ⟨h3, hj⟩
      | arr sz es fz =>
        obtain ⟨vs, et, g1, g2, g3, g4, g5, g6, g7⟩ := h4
        exact (g7 j).2 ⟨h3, hj⟩
      | dead => exact absurd rfl h2
      | tree => cases h3
  · exact h

theorem RelV.dropR {w : World} {Pr : Pro} {p : Place} {os tl : List Ob} {x : V} {v : Value} (h : RelV w Pr p (os ++ tl) x v) (hb : x.bndR os.length = true) : RelV w Pr p os x v := by
  cases x with
  | tup cs =>
    cases h with
    | tup hz hr =>
      simp only [V.bndR, List.all_eq_true] at hb
      exact .tup hz fun i hi => (hr i hi).drop (hb _ (List.getElem_mem hi))
  | _ => exact h.drop hb

theorem look_init {args : List V} {os : List Ob} (t : Nat) : look (init args os).env t = args.getD t .any := by
  unfold init
  have key : ∀ (args : List V) (n : Nat), look ((List.range' n args.length).zip args) t = if n ≤ t then args.getD (t - n) .any else .any := by
    intro args
    induction args with
    | nil => intro n; simp [look]
    | cons x r ih =>
      intro n
      simp only [List.length_cons, List.range'_succ, List.zip_cons_cons, look]
      cases hb : Nat.beq n t with
      | true =>
        rw [cond_true, Nat.eq_of_beq_eq_true hb]; simp
      | false =>
        have hne : n ≠ t := fun e => by rw [e, Nat.beq_refl] at hb; cases hb
        rw [cond_false, ih (n + 1)]
        by_cases h : n ≤ t
        · rw [if_pos h, if_pos (by omega), show t - n = (t - (n + 1)) + 1 by omega]; simp
        · rw [if_neg h, if_neg (by omega)]
  have := key args 0
  rw [List.range_eq_range', this]; simp

theorem resOf_rel {w : World} {Pr : Pro} {p : Place} {os : List Ob} {vs : List V} {us : List Value} (k2 : us.length = vs.length) (k4 : ∀ i (h1 : i < vs.length) (h2 : i < us.length), RelV w Pr p os vs[i] us[i]) :
    RelV w Pr p os (resOf vs) (if h : us.toArray.size = 1 then us.toArray[0] else .tuple us.toArray) := by
  cases vs with
  | nil =>
    cases us with
    | nil => simp only [resOf]; exact .tup rfl (fun i hi => by simp at hi)
    | cons => simp at k2
  | cons v vr =>
    cases us with
    | nil => simp at k2
    | cons u ur =>
      cases vr with
      | nil =>
        cases ur with
        | nil => simpa [resOf] using k4 0 (by simp) (by simp)
        | cons => simp at k2
      | cons v2 vr =>
        cases ur with
        | nil => simp at k2
        | cons u2 ur =>
          simp only [List.length_cons] at k2
          rw [dif_neg (by simp)]
          simp only [resOf]
          refine .tup (by simp; omega) fun i hi => ?_
          have := k4 i (by simpa using hi) (by simp at hi ⊢; omega)
          simpa using this

/-- A mark's block is shut. -/
theorem Rel.shut {g : Ghost} {s : St} {a : Act} {w : World} {d : Deferred} {r : List Deferred} (hR : Rel g s a w) (hd : a.defers = d :: r) :
    ∃ D, d = { target := .collected D, args := #[] } ∧ (Instr.takeDeferred D).run P w = .ok [] (w.putObj D (.deferred none)) ∧ Rel g s { a with defers := r } (w.putObj D (.deferred none)) := by
  obtain ⟨⟨Pr, p, hI, hE⟩, h0⟩ := hR
  rw [hd] at h0
  obtain ⟨⟨D, h1, h2, h3, h4⟩, h5⟩ := h0
  have hlt : D < w.heap.size := (Array.getElem?_eq_some_iff.1 h3).1
  have hne : ∀ o ob, s.os[o]? = some ob → ob ≠ .dead → p.bl o ≠ D := by
    rintro o ob k1 k2 rfl
    have k3 := hI.mem.ob o ob k1
    cases ob with
    | var cs fz => obtain ⟨vs, et, k4, _⟩ := k3; rw [h3] at k4; cases k4
    | arr sz es fz => obtain ⟨vs, et, k4, _⟩ := k3; rw [h3] at k4; cases k4
    | tree sz es => obtain ⟨vs, et, k4, _⟩ := k3; rw [h3] at k4; cases k4
    | dead => exact k2 rfl
  have hown : ∀ o ob k c, s.os[o]? = some ob → ob.isTree = true → p.ow k = some (o, c) → k ≠ D := by
    rintro o ob k c k1 k2 k3 rfl
    obtain ⟨⟨vs, et, a1⟩, _⟩ := hI.mem.own o ob k c k1 k2 k3
    rw [h3] at a1; cases a1
  have hcell : ∀ b i v, cellAt w b i = some v → cellAt (w.putObj D (.deferred none)) b i = some v := by
    intro b i v hc
    have hb : b ≠ D := by
      rintro rfl
      simp [cellAt, World.cell?, h3] at hc
    rw [cellAt_of_heap (World.putObj_heap_other hb)]; exact hc
  have hst : Stab w (w.putObj D (.deferred none)) Pr Pr := ⟨fun _ _ h => h, fun b i v _ hc => hcell b i v hc⟩
  have hmem : Mem (w.putObj D (.deferred none)) Pr p s.os := by
    refine ⟨fun b i h => by rw [World.putObj_size]; exact hI.mem.prIn b i h, fun o ob k1 k2 => by rw [World.putObj_size]; exact hI.mem.blk o ob k1 k2, hI.mem.inj, fun o ob k1 => ?_, fun o ob k c k1 k2 k3 => by
      obtain ⟨a1, a2, a3⟩ := hI.mem.own o ob k c k1 k2 k3
      exact ⟨a1.of (World.putObj_heap_other (hown o ob k c k1 k2 k3)), a2, a3⟩⟩
    exact (hI.mem.ob o ob k1).mono hst (.refl _ _) (fun k2 => ⟨rfl, rfl, World.putObj_heap_other (hne o ob k1 k2), fun _ => .rfl⟩) (fun ht k c hk => ⟨hk, World.putObj_heap_other (hown o ob k c k1 ht hk)⟩)
  refine ⟨D, h1, run_takeDeferred h3, ⟨Pr, p, ⟨hmem, ?_, hI.stab.trans hst, hI.prN, hI.cmp, hI.own⟩, fun t => (hE t).cmp hst (.refl _ _)⟩, ?_⟩
  · refine hI.frm.trans ⟨rfl, rfl, rfl, by rw [World.putObj_size]; exact Nat.le_refl _, fun k hk _ => World.putObj_heap_other (by omega)⟩
  · show Marks g.w0.heap.size _ r
    have key : ∀ {l : List Deferred}, (∀ e ∈ l, e ≠ { target := .collected D, args := #[] }) → Marks g.w0.heap.size w l → Marks g.w0.heap.size (w.putObj D (.deferred none)) l := by
      intro l
      induction l with
      | nil => exact fun _ _ => trivial
      | cons e l ih =>
        rintro g1 ⟨⟨D2, k1, k2, k3, k4⟩, k5⟩
        have hD : D2 ≠ D := by
          rintro rfl
          exact g1 e (by simp) k1
        exact ⟨⟨D2, k1, k2, (World.putObj_heap_other hD).trans k3, k4⟩, ih (fun e he => g1 e (by simp [he])) k5⟩
    exact key h4 h5

theorem Rel.leaves {g : Ghost} {s : St} {fn : Func} {R : Ending → World → Prop} {n : Nat} (hfin : ∀ (a : Act) (w : World), Rel g s a w → a.defers = [] → ∃ v, (results fn a.tmps).run P w = .ok v w ∧ R (.returned v) w) :
    ∀ (l : List Deferred) (a : Act) (w : World), a.defers = l → Rel g s a w → LeavesInM (FR none) n P fn a.tmps R l .returning w
  | [], a, w, hd, hR => hfin a w hR hd
  | d :: r, a, w, hd, hR => by
    obtain ⟨D, h1, h2, h3⟩ := hR.shut (P := P) hd
    refine ⟨by simp, .inl ⟨D, _, by rw [h1], h2, ?_⟩⟩
    exact Rel.leaves hfin r { a with defers := r } _ rfl h3

theorem Says.closed [ItOk T P] {X : Call} (hm : P.follows .mixedOrders = true) (hX : ∀ f a os r os', X f a os r os' → Says P gl f a os r os') : Closed P T X (Says P gl) := by
  refine ⟨hX, fun f a a' os r r' os' ⟨hl, ha⟩ hr h => ⟨h.1, fun w Pr p vals hM hG hz hrel => (h.2 w Pr p vals hM hG (by omega) fun i hi => (ha i (by omega)).rel (hrel i (by omega))).mono ?_⟩, fun f fn body args os r os' hf hb hname hlen hd h => ⟨⟨fn, hf, hname, by rw [hb]; rfl⟩, fun w Pr p vals hM hG hl hrel => ?_⟩⟩
  · rintro e w' ⟨v, Pr', p', h1, h2, h3⟩
    exact ⟨v, Pr', p', h1, h2, hr.rel h3⟩
  have hR : Rel ⟨w, Pr, p, os⟩ (init args os) { tmps := vals ++ Array.replicate (fn.ntmps - vals.size) undef, defers := [] } w := by
    refine ⟨⟨Pr, p, ⟨hM, .refl _ _ _, .refl _ _, fun _ _ h => .inl h, .refl _ _, fun _ h => .inr h⟩, fun t => ?_⟩, trivial⟩
    · rw [look_init]
      by_cases ht : t < args.length
      · have h1 := hrel t ht
        have h2 : args.getD t .any = args[t] := by simp [List.getD, ht]
        rw [h2]
        have h3 : (vals ++ Array.replicate (fn.ntmps - vals.size) undef).getD t undef = vals[t]'(by omega) := by
          simp [Array.getD, show t < vals.size by omega, show t < vals.size + (fn.ntmps - vals.size) by omega]
        simp only [h3]
        exact h1
      · have h2 : args.getD t .any = .any := by simp [List.getD, List.getElem?_eq_none (Nat.le_of_not_lt ht)]
        rw [h2]; exact .any
  refine (callsIn_wide (n := 0)).1 (callsIn_of_wp_marks (F := FR none) hf hb trivial (wpIn_mono (h.sound hm (fun _ _ _ _ _ h => h) hd ⟨w, Pr, p, os⟩ _ w rfl hG hR (by simp; omega) none 0 (.inl rfl)) ?_) rfl)
  rintro e a w' ⟨x, s, rfl, ⟨hx, s', hw, hends⟩, hR, hn⟩
  have hR' := hw.rel (g := ⟨w, Pr, p, os⟩) rfl hR
  have fin0 : ∀ (a : Act) (w' : World), Rel ⟨w, Pr, p, os⟩ s' a w' → a.defers = [] → ∃ v, (results fn a.tmps).run P w' = .ok v w' ∧ ∃ v2 Pr' p', Ending.returned v = .returned v2 ∧ Inv ⟨w, Pr, p, os⟩ w' Pr' p' os' ∧ RelV w' Pr' p' os' r v2 := by
    intro a w' hR' _
    obtain ⟨⟨Pr', p', hI, hE⟩, h0⟩ := hR'
    have run : ∀ {vs : List V} (_ : resVs T s' fn.results.toList = some vs), ∃ us : List Value, (results fn a.tmps).run P w' = .ok (if h : us.toArray.size = 1 then us.toArray[0] else .tuple us.toArray) w' ∧
        us.length = vs.length ∧ ∀ i (h1 : i < vs.length) (h2 : i < us.length), RelV w' Pr' p' s'.os vs[i] us[i] := by
      intro vs res
      obtain ⟨us, k1, k2, k3⟩ := resVs_sound (g := ⟨w, Pr, p, os⟩) hI.mem hE res
      exact ⟨us, by rw [results_eq, Array.mapM_eq_mapM_toList]; simp [k1], k2, k3⟩
    rcases hends with ⟨vs, tl, res, eq, hos, hle, hb1, hb2⟩ | ⟨vs, ds, l, res, hd, h0, eq, hos⟩
    · obtain ⟨us, hr1, k2, k3⟩ := run res
      refine ⟨_, hr1, _, Pr', p', rfl, (show Inv ⟨w, Pr, p, os⟩ w' Pr' p' (os' ++ tl) from hos ▸ hI).drop hb2 hle, ?_⟩
      refine RelV.dropR (tl := tl) ?_ hb1
      rw [← hos]
      exact eq.rel <| resOf_rel (by simp [k2]) fun i h1 h2 => by simpa using asD_rel hI.mem (k3 i (by simpa using h1) h2)
    · obtain ⟨us, hr1, k2, k3⟩ := run res
      have hI2 := hI
      obtain ⟨Pr2, m, s1, c1, f1⟩ := frozenM (nF := os.length) hI.cmp.len l hI.mem
      obtain ⟨d1, d2⟩ := mapL_rel (fun h hz hr => leaf_rel hI.mem s1 h hz hr) hd f1
      have hI3 : Inv ⟨w, Pr, p, os⟩ w' Pr2 p' (freeze s'.os l) := hI.step m.step m.mem
      subst hos
      have hz : os = [] := List.eq_nil_of_length_eq_zero h0
      refine ⟨_, hr1, _, Pr2, p', rfl, (show Inv ⟨w, Pr, p, os⟩ w' Pr2 p' ([] ++ freeze s'.os l) from hI3).drop (by simp) (by simp [hz]), ?_⟩
      exact eq.rel <| resOf_rel (by simp [k2, d1]) fun i h1 h2 => by
        simp at h1
        have := d2 i (by omega) h1 _ (k3 i (by omega) h2)
        simpa using RelV.d this
  rcases hx with rfl | rfl
  · exact Rel.leaves fin0 _ a w' rfl hR'
  · exact Rel.leaves fin0 _ a w' rfl hR'

theorem Den.says [ItOk T P] {X : Call} (hm : P.follows .mixedOrders = true) (hX : ∀ f a os r os', X f a os r os' → Says P gl f a os r os') {f : FuncId} {a : List V} {os : List Ob} {r : V} {os' : List Ob}
    (h : Den P T X f a os r os') : Says P gl f a os r os' := h _ (Says.closed hm hX)

end
end Go.PL

/- PlMono -/
namespace Go.PL
open Go

section
variable {P : Program} {T : Tab} [TOk T P] {C C' : Call}

theorem boundsK_mono {n : Nat} {lo hi : Option V} {F F' : Nat → Nat → Prop} (hF : ∀ a b, F a b → F' a b) (h : boundsK n lo hi F) : boundsK n lo hi F' := by
  unfold boundsK at *
  split at h
  · exact ⟨h.1, h.2.1, h.2.2.1, hF _ _ h.2.2.2⟩
  · exact h.elim

theorem sliceK_mono {n : Nat} {os : List Ob} {x : V} {lo hi : Option V} {K K' : V → Prop} (hK : ∀ v, K v → K' v) (h : sliceK n os x lo hi K) : sliceK n os x lo hi K' := by
  unfold sliceK at *
  split at h
  · exact boundsK_mono (fun a b h => ⟨h.1, hK _ h.2⟩) h
  · exact boundsK_mono (fun a b h => hK _ h) h
  · exact boundsK_mono (fun a b h => ⟨h.1, hK _ h.2⟩) h
  · exact h.elim

theorem sliceStrK_mono {x : V} {lo hi : Option V} {K K' : V → Prop} (hK : ∀ v, K v → K' v) (h : sliceStrK x lo hi K) : sliceStrK x lo hi K' := by
  unfold sliceStrK at *
  split at h
  · exact boundsK_mono (fun a b h => hK _ h) h
  · exact h.elim

theorem binK_mono {k : TK} {op : BinOp} {x y : V} {K K' : V → Prop} (hK : ∀ v, K v → K' v) (h : binK k op x y K) : binK k op x y K' := by
  obtain ⟨v, h1, h2⟩ := binK_det h
  exact h2 K' (hK v h1)

theorem appendK_mono {nF : Nat} {ti : TI} {st : St} {s : V} {news : List D} {K K' : V → St → Prop} (hK : ∀ v s, K v s → K' v s) (h : appendK nF ti st s news K) : appendK nF ti st s news K' := by
  unfold appendK at *
  refine ⟨h.1, h.2.1, ?_⟩
  have h := h.2.2
  split at h
  · split at h
    · exact ⟨h.1, h.2.1, h.2.2.1, h.2.2.2.1, h.2.2.2.2.1, hK _ _ h.2.2.2.2.2⟩
    · exact h.elim
  · exact ⟨fun e => hK _ _ (h.1 e), fun e => ⟨(h.2 e).1, (h.2 e).2.1, hK _ _ (h.2 e).2.2⟩⟩
  · exact h.elim

theorem loadK_mono {i : TI} {st : St} {a : V} {K K' : V → Prop} (hK : ∀ v, K v → K' v) (h : loadK i st a K) : loadK i st a K' := by
  unfold loadK at *
  split at h
  · split at h
    · exact ⟨h.1, h.2.1, hK _ h.2.2⟩
    · exact ⟨h.1, h.2.1, hK _ h.2.2⟩
    · exact ⟨h.1, h.2.1, h.2.2.1, hK _ h.2.2.2⟩
    · exact h.elim
  · exact ⟨h.1, hK _ h.2⟩
  · exact h.elim

theorem storeK_mono {i : TI} {st : St} {a x : V} {K K' : St → Prop} (hK : ∀ v, K v → K' v) (h : storeK i st a x K) : storeK i st a x K' := by
  unfold storeK at *
  refine ⟨h.1, h.2.1, ?_⟩
  have h := h.2.2
  split at h
  · split at h
    · exact ⟨h.1, h.2.1, hK _ h.2.2⟩
    · split at h
      · exact ⟨h.1, h.2.1, h.2.2.1, h.2.2.2.1, hK _ h.2.2.2.2⟩
      · exact h.elim
    · exact ⟨h.1, h.2.1, h.2.2.1, h.2.2.2.1, hK _ h.2.2.2.2⟩
    · exact h.elim
  · exact h.elim

theorem indexK_mono {n : Nat} {os : List Ob} {x : V} {ix : Int} {K K' : V → Prop} (hK : ∀ v, K v → K' v) (h : indexK n os x ix K) : indexK n os x ix K' := by
  unfold indexK at *
  split at h
  · exact ⟨h.1, h.2.1, h.2.2.1, hK _ h.2.2.2⟩
  · exact ⟨h.1, h.2.1, h.2.2.1, hK _ h.2.2.2⟩
  · exact h.elim

theorem bytesK_mono {e : TK} {es : Option (List D)} {K K' : V → Prop} (hK : ∀ v, K v → K' v) (h : bytesK e es K) : bytesK e es K' := by
  obtain ⟨v, h1, h2⟩ := bytesK_det h
  exact h2 K' (hK v h1)

theorem opK_mono {nF : Nat} {st : St} {op : Op} {K K' : V → St → Prop} (hK : ∀ v s, K v s → K' v s) (h : opK T nF st op K) : opK T nF st op K' := by
  unfold opK at *
  split at h
  all_goals try dsimp only at h ⊢
  all_goals repeat' (first
    | exact h.elim
    | exact hK _ _ h
    | exact binK_mono (fun v => hK v _) h
    | exact bytesK_mono (fun v => hK v _) h
    | ((try (revert h; simp only [*]; intro h)); exact loadK_mono (fun v h => hK v st h) h)
    | ((try (revert h; simp only [*]; intro h)); exact storeK_mono (fun v h => hK _ v h) h)
    | ((try (revert h; simp only [*]; intro h)); exact sliceK_mono (fun v h => hK v st h) h)
    | ((try (revert h; simp only [*]; intro h)); exact sliceStrK_mono (fun v h => hK v st h) h)
    | ((try (revert h; simp only [*]; intro h)); exact indexK_mono (fun v h => hK v st h) h)
    | ((try (revert h; simp only [*]; intro h)); exact hK _ _ h)
    | exact ⟨h.1, hK _ _ h.2⟩
    | ((try (revert h; simp only [*]; intro h)); exact ⟨h.1, appendK_mono hK h.2⟩)
    | split at h
    | ((try (revert h; simp only [*]; intro h)); exact ⟨h.1, hK _ _ h.2⟩)
    | ((try (revert h; simp only [*]; intro h)); exact ⟨h.1, h.2.1, hK _ _ h.2.2⟩)
    | ((try (revert h; simp only [*]; intro h)); exact ⟨h.1, h.2.1, h.2.2.1, hK _ _ h.2.2.2⟩)
    | ((try (revert h; simp only [*]; intro h)); exact ⟨h.1, h.2.1, h.2.2.1, h.2.2.2.1, h.2.2.2.2.1, hK _ _ h.2.2.2.2.2⟩))

end
end Go.PL

/- PlDen -/
namespace Go.PL
open Go

section
variable {P : Program} {T : Tab} [TOk T P] {C C' : Call}

theorem callK_mono (hC : ∀ f a os r os', C f a os r os' → C' f a os r os') {st : St} {n : FuncId} {vs : List V} {K K' : V → St → Prop} (hK : ∀ v s, K v s → K' v s) (h : callK C st n vs K) : callK C' st n vs K' := by
  rcases h with ⟨ds, l, r, N, h1, h2, h3, h4⟩ | ⟨r, os', h1, h2⟩ | ⟨ds, l, r, N, h1, h2, h5, h3, h4⟩
  · exact .inl ⟨ds, l, r, N, h1, hC _ _ _ _ _ h2, h3, hK _ _ h4⟩
  · exact .inr (.inl ⟨r, os', hC _ _ _ _ _ h1, hK _ _ h2⟩)
  · exact .inr (.inr ⟨ds, l, r, N, h1, hC _ _ _ _ _ h2, h5, h3, hK _ _ h4⟩)

theorem quietCall_mono (hC : ∀ f a os r os', C f a os r os' → C' f a os r os') {st : St} {n : FuncId} {vs : List V} {K K' : V → Prop} (hK : ∀ v, K v → K' v) (h : quietCall C st n vs K) : quietCall C' st n vs K' := by
  obtain ⟨ds, l, r, h1, h2, h3, h4⟩ := h
  exact ⟨ds, l, r, h1, hC _ _ _ _ _ h2, h3, hK _ h4⟩

theorem calleeK_mono {st : St} {f : Operand} {args : List Operand} {K K' : FuncId → List V → Prop} (hK : ∀ n vs, K n vs → K' n vs) (h : calleeK st f args K) : calleeK st f args K' := by
  unfold calleeK at *
  split at h
  · exact hK _ _ h
  · exact hK _ _ h
  · exact h.elim

theorem treeK_mono {nF : Nat} {st : St} {op : Op} {K K' : V → St → Prop} (hK : ∀ v s, K v s → K' v s) (h : treeK T nF st op K) : treeK T nF st op K' := by
  unfold treeK at *
  split at h
  · split at h
    · split at h
      · split at h
        · exact ⟨h.1, h.2.1, h.2.2.1, hK _ _ h.2.2.2⟩
        · exact h.elim
      · exact h.elim
    · exact h.elim
  · split at h
    · split at h
      · split at h
        · refine ⟨h.1, ?_⟩
          have h := h.2
          unfold appendTK at *
          refine ⟨h.1, h.2.1, h.2.2.1, ?_⟩
          have h := h.2.2.2
          split at h
          · split at h
            · exact ⟨h.1, h.2.1, h.2.2.1, h.2.2.2.1, h.2.2.2.2.1, hK _ _ h.2.2.2.2.2⟩
            · exact h.elim
          · exact h.elim
        · exact h.elim
      · exact h.elim
    · exact h.elim
  · exact h.elim

theorem op1K_mono (hC : ∀ f a os r os', C f a os r os' → C' f a os r os') {nF : Nat} {o : Oper} {st : St} {K K' : St → Prop} (hK : ∀ s, K s → K' s) (h : op1K T C nF o st K) : op1K T C' nF o st K' := by
  unfold op1K at *
  split at h
  · exact calleeK_mono (fun n vs h => callK_mono hC (fun v s h => hK _ h) h) h
  · rcases h with h | ⟨n, h1, h2, h3, h4⟩
    · exact .inl (binK_mono (fun v h => hK _ h) h)
    · refine .inr ⟨n, h1, h2, h3, fun b hb => ?_⟩
      obtain ⟨v, g1, g2⟩ := eqneK_det (h4 b hb)
      exact g2 _ (hK _ g1)
  · rcases h with h | h
    · exact .inl (opK_mono (fun v s h => hK _ h) h)
    · exact .inr (treeK_mono (fun v s h => hK _ h) h)
  · rcases h with h | h
    · exact .inl (opK_mono (fun v s h => hK _ h) h)
    · exact .inr (treeK_mono (fun v s h => hK _ h) h)
  · exact opK_mono (fun v s h => hK _ h) h

theorem quiet1K_mono (hC : ∀ f a os r os', C f a os r os' → C' f a os r os') {nF : Nat} {o : Oper} {st : St} {K K' : St → Prop} (hK : ∀ s, K s → K' s) (h : quiet1K T C nF o st K) : quiet1K T C' nF o st K' := by
  unfold quiet1K at *
  split at h
  · exact calleeK_mono (fun n vs h => quietCall_mono hC (fun v h => hK _ h) h) h
  · exact ⟨h.1, opK_mono (fun v s h => hK _ h) h.2⟩

theorem guardK_mono {all : Array Oper} {o : Oper} {st : St} {a b a' b' : Prop} (ha : a → a') (hb : b → b') (h : guardK all o st a b) : guardK all o st a' b' := by
  unfold guardK at *
  split at h
  · exact ha h
  · split at h
    · split at h
      · exact ⟨fun e => ha (h.1 e), fun e => hb (h.2 e)⟩
      · exact hb h
      · exact h.elim
    · exact h.elim

theorem opsK_mono (hC : ∀ f a os r os', C f a os r os' → C' f a os r os') {nF : Nat} {all : Array Oper} {K K' : St → Prop} (hK : ∀ s, K s → K' s) : ∀ {l : List Oper} {st : St}, opsK T C nF all l st K → opsK T C' nF all l st K'
  | [], st, h => hK _ h
  | o :: r, st, h => by
    simp only [opsK] at h ⊢
    exact guardK_mono (fun h => op1K_mono hC (fun s h => opsK_mono hC hK h) h) (fun h => opsK_mono hC hK h) h

theorem quietK_mono (hC : ∀ f a os r os', C f a os r os' → C' f a os r os') {nF : Nat} {all : Array Oper} {K K' : St → Prop} (hK : ∀ s, K s → K' s) : ∀ {l : List Oper} {st : St}, quietK T C nF all l st K → quietK T C' nF all l st K'
  | [], st, h => hK _ h
  | o :: r, st, h => by
    simp only [quietK] at h ⊢
    exact guardK_mono (fun h => quiet1K_mono hC (fun s h => quietK_mono hC hK h) h) (fun h => quietK_mono hC hK h) h

theorem lateK_mono (hC : ∀ f a os r os', C f a os r os' → C' f a os r os') {nF : Nat} {all : Array Oper} {o : Oper} {st : St} (h : lateK T C nF all o st) : lateK T C' nF all o st :=
  guardK_mono (fun h => quiet1K_mono hC (fun _ h => h) h) (fun h => h) h

theorem latesK_mono (hC : ∀ f a os r os', C f a os r os' → C' f a os r os') {nF : Nat} {all : Array Oper} {st : St} : ∀ {l : List Nat}, latesK T C nF all l st → latesK T C' nF all l st
  | [], _ => trivial
  | k :: r, h => ⟨by
      have := h.1
      split at this
      · exact lateK_mono hC this
      · trivial, latesK_mono hC h.2⟩

theorem trK_mono (hC : ∀ f a os r os', C f a os r os' → C' f a os r os') {nF : Nat} {all : Array Oper} {K K' : St → Prop} (hK : ∀ s, K s → K' s) : ∀ {t : OT} {st : St}, trK T C nF all t st K → trK T C' nF all t st K'
  | .done, st, h => hK _ h
  | .op i late t, st, h => by
    simp only [trK] at h ⊢
    split at h
    · exact guardK_mono (fun h => op1K_mono hC (fun s h => ⟨latesK_mono hC h.1, trK_mono hC hK h.2⟩) h) (fun h => ⟨latesK_mono hC h.1, trK_mono hC hK h.2⟩) h
    · exact h.elim
  | .both a b, st, h => ⟨trK_mono hC hK h.1, trK_mono hC hK h.2⟩

theorem Wp.call (hC : ∀ f a os r os', C f a os r os' → C' f a os r os') {nF : Nat} {c : Code} {s : St} {Q : Ex → St → Prop} (h : Wp T C nF c s Q) : Wp T C' nF c s Q := by
  induction h with
  | weak hw _ ih => exact .weak hw ih
  | mono _ hq ih => exact .mono ih hq
  | skip h => exact .skip h
  | label h => exact .label h
  | exit h => exact .exit h
  | ret h => exact .ret h
  | seq _ _ hx iha ihb => exact .seq iha ihb hx
  | cond t ht _ _ ih1 ih2 => exact .cond t ht ih1 ih2
  | block _ ih => exact .block ih
  | loop I n hw hI _ ih => exact .loop I n hw hI ih
  | region h => exact .region (opsK_mono hC (fun _ h => h) h)
  | range g es I X M h1 h2 h3 h4 h5 h6 _ _ hd hs iha ihb => exact .range g es I X M h1 h2 h3 h4 h5 h6 (fun k os a b => iha k os a b) (fun k os s a b c => ihb k os s a b c) hd hs
  | drawS ns t hd h => exact .drawS ns t hd (quietK_mono hC (fun _ h => trK_mono hC (fun _ h => h) h) h)
  | draw m hd h => exact .draw m hd (quietK_mono hC (fun _ h => opsK_mono hC (fun _ h => h) h) h)

theorem Den.ext {X : Call} {f : FuncId} {a : List V} {os : List Ob} {r : V} {os' : List Ob} (h : X f a os r os') : Den P T X f a os r os' := fun _ hC => hC.ext _ _ _ _ _ h

theorem Den.le {X : Call} {f : FuncId} {a a' : List V} {os : List Ob} {r r' : V} {os' : List Ob} (ha : VsLe a a') (hr : VLe r r') (h : Den P T X f a' os r os') : Den P T X f a os r' os' :=
  fun C hC => hC.le _ _ _ _ _ _ _ ha hr (h C hC)

/-- What a function's body does is what its call does. -/
theorem Den.fn {X : Call} {f : FuncId} {fn : Func} {body : Code} {a : List V} {os : List Ob} {r : V} {os' : List Ob} (hf : P.funcs[f]? = some fn) (hb : fn.body = some body) (hn : (fn.name == "runtime.NumGoroutine") = false)
    (hl : a.length ≤ fn.ntmps) (hd : dstOk fn.ntmps body = true)
    (h : Wp T (Den P T X) os.length body (init a os) fun e s => (e = .ret ∨ e = .normal) ∧ ∃ s', Weak os.length s s' ∧ Ends T fn os.length s' r os') : Den P T X f a os r os' :=
  fun _ hC => hC.fn f fn body a os r os' hf hb hn hl hd (h.call fun _ _ _ _ _ h => h _ hC)

end
end Go.PL
