/- Operations one behind the other, with their guards. -/
import Derived.Test.YtncnpgakflmibaaAi12
set_option linter.unusedSimpArgs false
set_option linter.unusedVariables false
set_option linter.unusedSectionVars false
namespace Go.Proofs.Ytncnpgakflmibaa.Ai
open Go.RowKit

def okPick (o : Op) (g : Nat) (b : Bool) (r : AO) : Bool := match o with
  | .pick (.tmp g') x y => g' == g && if b then okO x r && (match y with
    | .const (.bool false) => true
    | _ => false) else okO y r && (match x with
    | .const (.bool true) => true
    | _ => false)
  | _ => false
mutual
def okItem (P : Program) (N : Nat) (ops : Array Oper) (gd : Option (Nat × Bool)) (seen : List Nat) : AItem → List Oper → Option (List Oper)
  | .one d op, os => match os with
    | o :: rest => if decide (o.guard = gd) && decide (o.dst = d) && (d.toList.all fun t => decide (t < N)) && okOp P o.op op && (gd.isNone || decide (kind op < 2)) then some rest else none
    | [] => none
  | .sc g b l r d, os => match os with
    | o :: _ => match o.guard with
      | some (i, b') => if decide (b' = b) && decide ((ops[i]?).bind (·.dst) = some g) && !(dstsL l).contains g && (gd.isNone || seen.contains g) && decide (d < N) then
          match okItems P N ops (some (i, b)) [] l os with
          | some (p :: rest) => if decide (p.guard = gd) && decide (p.dst = some d) && okPick p.op g b r then some rest else none
          | _ => none
        else none
      | none => none
    | [] => none
def okItems (P : Program) (N : Nat) (ops : Array Oper) (gd : Option (Nat × Bool)) (seen : List Nat) : List AItem → List Oper → Option (List Oper)
  | [], os => some os
  | i :: l, os => match okItem P N ops gd seen i os with
    | some rest => okItems P N ops gd (i.dsts ++ seen) l rest
    | none => none
end

structure Inv (H0 : List Box) (s : St) : Prop where
  base : s.base = H0.length
  le : H0.length ≤ s.H.length
  esc : s.esc = false → Ord s.base s.H
  wr : s.wr = false → ∀ i, i < H0.length → s.H[i]? = H0[i]?
structure SR (H0 : List Box) (N : Nat) (I : Imm) (G : List Gh) (w : World) (a : Act) (s : St) : Prop where
  rel : Rel I G s.H w
  fr : FR I G s.fr a
  defers : a.defers = []
  size : N ≤ a.tmps.size
  inv : Inv H0 s
abbrev tmp (a : Act) (t : Nat) : Value := a.tmps.getD t undef
theorem tmp_put_same {a : Act} {d : Nat} {u : Value} (h : d < a.tmps.size) : tmp (a.put (some d) u) d = u := by
  simp [tmp, Act.put, Array.getD, h]
theorem tmp_put_undef {a : Act} {d : Nat} : tmp (a.put (some d) undef) d = undef := by
  by_cases h : d < a.tmps.size
  · exact tmp_put_same h
  · simp [tmp, Act.put, Array.getD, h]
theorem tmp_put_other {a : Act} {d : Option Nat} {u : Value} {t : Nat} (h : d ≠ some t) : tmp (a.put d u) t = tmp a t := by
  cases d with
  | none => rfl
  | some d =>
    have hne : d ≠ t := fun e => h (by rw [e])
    simp [tmp, Act.put, Array.getElem?_setIfInBounds_ne hne]
theorem put_defers (a : Act) (d : Option Nat) (u : Value) : (a.put d u).defers = a.defers := by cases d <;> rfl
theorem put_size (a : Act) (d : Option Nat) (u : Value) : (a.put d u).tmps.size = a.tmps.size := by cases d <;> simp [Act.put]
theorem yielded_iff {ops : Array Oper} {tmps : Array Value} {j g : Nat} {b : Bool} (h : (ops[j]?).bind (·.dst) = some g) : (yielded ops tmps j == some b) = true ↔ tmps.getD g undef = .bool b := by
  unfold yielded
  rw [h]
  simp only [Option.bind_some, beq_iff_eq]
  by_cases hg : g < tmps.size
  · simp only [Array.getD, hg, dif_pos, Array.getInternal_eq_getElem, Array.getElem?_eq_getElem hg]
    constructor
    · intro h
      split at h
      · rename_i b' hb'
        rw [Option.some.inj hb', Option.some.inj h]
      · simp at h
    · intro h
      rw [h]
  · simp only [Array.getD, hg, dif_neg, not_false_eq_true, Array.getElem?_eq_none (Nat.le_of_not_lt hg)]
    constructor
    · intro h; simp at h
    · intro h; simp [undef] at h

section
variable {P : Program} {N : Nat} {ops : Array Oper} {Q : Exit → Act → World → Prop}
/-! ### Operations that are not wanted -/
theorem wpList_skip1 {o : Oper} {rest : List Oper} {a : Act} {w : World} {j g : Nat} {b : Bool} (hg : o.guard = some (j, b)) (hd : (ops[j]?).bind (·.dst) = some g) (hn : tmp a g ≠ .bool b) (h : wpList P ops Q rest (a.put o.dst undef) w) : wpList P ops Q (o :: rest) a w := by
  refine wpList_step fun K hK => ?_
  have : Region.wanted o (yielded ops a.tmps) = false := by
    unfold Region.wanted
    rw [hg]
    simp only
    cases h2 : (yielded ops a.tmps j == some b) with
    | false => rfl
    | true => exact absurd ((yielded_iff hd).1 h2) hn
  rw [this]
  exact hK _ _ h
theorem undef_ne {b : Bool} : undef ≠ Value.bool b := by simp [undef]
mutual
theorem item_skip {j g : Nat} {b : Bool} {w : World} : ∀ (i : AItem) {os rest : List Oper} {seen : List Nat} {a : Act}, okItem P N ops (some (j, b)) seen i os = some rest → (ops[j]?).bind (·.dst) = some g → tmp a g ≠ .bool b → (∀ t ∈ seen, tmp a t = undef) →
    (∀ a' : Act, a'.defers = a.defers → a'.tmps.size = a.tmps.size → (∀ t ∈ i.dsts, tmp a' t = undef) → (∀ t, t ∉ i.dsts → tmp a' t = tmp a t) → wpList P ops Q rest a' w) → wpList P ops Q os a w
  | .one d op, os, rest, seen, a, hok, hd, hn, hs, h => by
    cases os with
    | nil => simp [okItem] at hok
    | cons o os =>
      simp only [okItem] at hok
      split at hok
      · rename_i hc
        obtain rfl := Option.some.inj hok
        simp only [Bool.and_eq_true, decide_eq_true_eq] at hc
        obtain ⟨⟨⟨⟨hg, hdst⟩, -⟩, -⟩, -⟩ := hc
        refine wpList_skip1 hg hd hn (h _ (put_defers _ _ _) (put_size _ _ _) (fun t ht => ?_) (fun t ht => tmp_put_other fun e => ht ?_))
        · rw [hdst]
          cases d with
          | none => simp [AItem.dsts] at ht
          | some d =>
            simp only [AItem.dsts, Option.toList_some, List.mem_singleton] at ht
            subst ht
            exact tmp_put_undef
        · rw [hdst] at e
          subst e
          simp [AItem.dsts]
      · simp at hok
  | .sc g' b' l r d, os, rest, seen, a, hok, hd, hn, hs, h => by
    cases os with
    | nil => simp [okItem] at hok
    | cons o os =>
      simp only [okItem] at hok
      split at hok
      · rename_i i b2 hg
        split at hok
        · rename_i hc
          simp only [Bool.and_eq_true, decide_eq_true_eq, Option.isNone_some, Bool.false_or, Bool.not_eq_true', List.contains_iff_mem] at hc
          obtain ⟨⟨⟨⟨rfl, hdi⟩, -⟩, hseen⟩, -⟩ := hc
          split at hok
          · rename_i p rest' hl
            split at hok
            · rename_i hp
              obtain rfl := Option.some.inj hok
              simp only [Bool.and_eq_true, decide_eq_true_eq] at hp
              obtain ⟨⟨hpg, hpd⟩, -⟩ := hp
              refine items_skip l hl hdi (by rw [hs g' hseen]; exact undef_ne) (fun t ht => by simp at ht) fun a1 hdf hsz hin hout => ?_
              have hn1 : tmp a1 g ≠ .bool b := by
                by_cases hg1 : g ∈ dstsL l
                · rw [hin g hg1]; exact undef_ne
                · rw [hout g hg1]; exact hn
              refine wpList_skip1 hpg hd hn1 (h _ ((put_defers _ _ _).trans hdf) ((put_size _ _ _).trans hsz) (fun t ht => ?_) (fun t ht => ?_))
              · rw [hpd]
                by_cases e : d = t
                · subst e; exact tmp_put_undef
                · rw [tmp_put_other (by simpa using e)]
                  simp only [AItem.dsts, List.mem_cons] at ht
                  exact hin t (ht.resolve_left (Ne.symm e))
              · simp only [AItem.dsts, List.mem_cons, not_or] at ht
                rw [hpd, tmp_put_other (by simpa using Ne.symm ht.1)]
                exact hout t ht.2
            · simp at hok
          · simp at hok
        · simp at hok
      · simp at hok
theorem items_skip {j g : Nat} {b : Bool} {w : World} : ∀ (l : List AItem) {os rest : List Oper} {seen : List Nat} {a : Act}, okItems P N ops (some (j, b)) seen l os = some rest → (ops[j]?).bind (·.dst) = some g → tmp a g ≠ .bool b → (∀ t ∈ seen, tmp a t = undef) →
    (∀ a' : Act, a'.defers = a.defers → a'.tmps.size = a.tmps.size → (∀ t ∈ dstsL l, tmp a' t = undef) → (∀ t, t ∉ dstsL l → tmp a' t = tmp a t) → wpList P ops Q rest a' w) → wpList P ops Q os a w
  | [], os, rest, seen, a, hok, hd, hn, hs, h => by
    simp only [okItems, Option.some.injEq] at hok
    subst hok
    exact h a rfl rfl (fun t ht => by simp [dstsL] at ht) (fun _ _ => rfl)
  | i :: l, os, rest, seen, a, hok, hd, hn, hs, h => by
    simp only [okItems] at hok
    split at hok
    · rename_i r hi
      refine item_skip i hi hd hn hs fun a1 hdf hsz hin hout => ?_
      have hn1 : tmp a1 g ≠ .bool b := by
        by_cases hg1 : g ∈ i.dsts
        · rw [hin g hg1]; exact undef_ne
        · rw [hout g hg1]; exact hn
      refine items_skip l hok hd hn1 (fun t ht => ?_) fun a2 hdf2 hsz2 hin2 hout2 => ?_
      · by_cases hti : t ∈ i.dsts
        · exact hin t hti
        · rw [hout t hti]
          exact hs t ((List.mem_append.1 ht).resolve_left hti)
      · refine h a2 (hdf2.trans hdf) (hsz2.trans hsz) (fun t ht => ?_) (fun t ht => ?_)
        · by_cases htl : t ∈ dstsL l
          · exact hin2 t htl
          · rw [hout2 t htl]
            simp only [dstsL, List.mem_append] at ht
            exact hin t (ht.resolve_right htl)
        · simp only [dstsL, List.mem_append, not_or] at ht
          rw [hout2 t ht.2, hout t ht.1]
    · simp at hok
end

/-! ### Operations that are -/
variable {call : CallFn} {H0 : List Box}
theorem fget_unks (l : List Nat) (fr : Fr) (t : Nat) : fget (l.map (fun i => (i, AV.unk)) ++ fr) t = if t ∈ l then .unk else fget fr t := by
  induction l with
  | nil => simp
  | cons i l ih =>
    simp only [List.map_cons, List.cons_append, fget, ih, List.mem_cons]
    by_cases h : t = i
    · simp [h]
    · simp [h]
theorem runOne_some {d : Option Nat} {op : AOp} {s s' : St} (h : runItem call (.one d op) s = some s') : ∃ r, stepOp call op (ev s.fr) s.H s.base = some r ∧ s' = { fr := Ai.put s.fr d r.v, H := r.H, base := s.base, esc := s.esc || r.esc, wr := s.wr || r.wr } := by
  rw [runItem] at h
  obtain ⟨r, hr, h⟩ := Option.bind_eq_some_iff.1 h
  exact ⟨r, hr, (Option.some.inj h).symm⟩
theorem Inv.step {s : St} {k : Nat} {r : An} {fr : Fr} (hi : Inv H0 s) (hg : Grow k s.base s.H r) : Inv H0 { fr := fr, H := r.H, base := s.base, esc := s.esc || r.esc, wr := s.wr || r.wr } := by
  refine ⟨hi.base, Nat.le_trans hi.le hg.len, fun he => ?_, fun hw i hlt => ?_⟩
  · simp only [Bool.or_eq_false_iff] at he
    exact hg.esc he.2 (hi.esc he.1)
  · simp only [Bool.or_eq_false_iff] at hw
    exact (hg.wr hw.2 i (by rw [hi.base]; exact hlt)).trans (hi.wr hw.1 i hlt)
theorem one_sound {I : Imm} {G : List Gh} {w : World} {a : Act} {s s' : St} {o : Oper} {op : AOp} {d : Option Nat} (hC : CallOk P call) (hok : okOp P o.op op = true) (hd : o.dst = d) (hN : ∀ t, d = some t → t < N) (hs : SR H0 N I G w a s) (hr : runItem call (.one d op) s = some s') {K : Act → World → Prop}
    (h : ∀ I' G' a' w', Nx I G s.H w I' G' s'.H w' → SR H0 N I' G' w' a' s' → (∀ t, d ≠ some t → tmp a' t = tmp a t) → K a' w') : o.wp P a w K Q := by
  obtain ⟨r, hst, rfl⟩ := runOne_some hr
  have he : ∀ x y, okO x y = true → CR I G (ev s.fr y) (a.eval x) := fun x y => hs.fr.ev
  have hg : Grow (kind op) s.base s.H r := stepOp_grow hok hs.rel (by rw [hs.inv.base]; exact hs.inv.le) (fun x y hxy b hb => by rw [← hs.rel.len]; exact (he x y hxy).names_lt b hb) hst
  refine stepOp_sound hC hok hs.rel he hst K Q fun I' G' u w' hn hv => h I' G' _ w' hn ⟨hn.rel, ?_, (put_defers _ _ _).trans hs.defers, by rw [put_size]; exact hs.size, hs.inv.step hg⟩ (fun t ht => tmp_put_other (by rw [hd]; exact ht))
  rw [hd]
  exact (hs.fr.ext hn.ext).put d hv fun t ht => Nat.lt_of_lt_of_le (hN t ht) hs.size
theorem wpList_want {o : Oper} {rest : List Oper} {a : Act} {w : World} (hg : ∀ j b, o.guard = some (j, b) → ∃ g, (ops[j]?).bind (·.dst) = some g ∧ tmp a g = .bool b) (h : ∀ K : Act → World → Prop, (∀ a w, wpList P ops Q rest a w → K a w) → o.wp P a w K Q) : wpList P ops Q (o :: rest) a w := by
  refine wpList_step fun K hK => ?_
  have : Region.wanted o (yielded ops a.tmps) = true := by
    unfold Region.wanted
    split
    · rfl
    · rename_i j b hgd
      obtain ⟨g, h1, h2⟩ := hg j b hgd
      exact (yielded_iff h1).2 h2
  rw [this]
  exact h K hK
/-- What a guard says, and that the operations leave it alone. -/
def Gd (ops : Array Oper) (gd : Option (Nat × Bool)) (a : Act) (ds : List Nat) : Prop := ∀ j b, gd = some (j, b) → ∃ g, (ops[j]?).bind (·.dst) = some g ∧ tmp a g = .bool b ∧ g ∉ ds
theorem items_H : ∀ (l : List AItem) {gd : Nat × Bool} {seen : List Nat} {os rest : List Oper} {s s' : St}, okItems P N ops (some gd) seen l os = some rest → runOps call l s = some s' → s'.H = s.H
  | [], gd, seen, os, rest, s, s', hok, hr => by
    simp only [runOps, Option.some.injEq] at hr
    rw [hr]
  | .one d op :: l, gd, seen, os, rest, s, s', hok, hr => by
    rw [runOps] at hr
    obtain ⟨s1, h1, hr⟩ := Option.bind_eq_some_iff.1 hr
    simp only [okItems] at hok
    split at hok
    · rename_i r hi
      cases os with
      | nil => simp [okItem] at hi
      | cons o os =>
        simp only [okItem] at hi
        split at hi
        · rename_i hc
          simp only [Bool.and_eq_true, decide_eq_true_eq, Option.isNone_some, Bool.false_or] at hc
          obtain ⟨r, hst, rfl⟩ := runOne_some h1
          exact (items_H l hok hr).trans (stepOp_keep hc.1.2 hc.2 hst).1
        · simp at hi
    · simp at hok
  | .sc g b l2 r d :: l, gd, seen, os, rest, s, s', hok, hr => by
    rw [runOps] at hr
    obtain ⟨s1, h1, hr⟩ := Option.bind_eq_some_iff.1 hr
    simp only [okItems] at hok
    split at hok
    · rw [runItem] at h1
      obtain ⟨x, _, h1⟩ := Option.bind_eq_some_iff.1 h1
      obtain ⟨y, _, h1⟩ := Option.bind_eq_some_iff.1 h1
      obtain rfl := Option.some.inj h1
      have := items_H l hok hr
      exact this
    · simp at hok
theorem asBool_some {v : AV} {b : Bool} (h : asBool' v = some b) : v = .bool b := by
  unfold asBool' at h
  split at h
  · rw [Option.some.inj h]
  · simp at h
mutual
theorem item_sound (hC : CallOk P call) : ∀ (i : AItem) {gd : Option (Nat × Bool)} {seen : List Nat} {os rest : List Oper} {I : Imm} {G : List Gh} {w : World} {a : Act} {s s' : St}, okItem P N ops gd seen i os = some rest → runItem call i s = some s' → SR H0 N I G w a s → Gd ops gd a i.dsts →
    (∀ I' G' a' w', Nx I G s.H w I' G' s'.H w' → SR H0 N I' G' w' a' s' → (∀ t, t ∉ i.dsts → tmp a' t = tmp a t) → wpList P ops Q rest a' w') → wpList P ops Q os a w
  | .one d op, gd, seen, os, rest, I, G, w, a, s, s', hok, hr, hs, hgd, h => by
    cases os with
    | nil => simp [okItem] at hok
    | cons o os =>
      simp only [okItem] at hok
      split at hok
      · rename_i hc
        obtain rfl := Option.some.inj hok
        simp only [Bool.and_eq_true, decide_eq_true_eq, List.all_eq_true] at hc
        obtain ⟨⟨⟨⟨hg, hdst⟩, hN⟩, hop⟩, -⟩ := hc
        refine wpList_want (fun j b hj => ?_) fun K hK => one_sound hC hop hdst (fun t ht => hN t (by rw [ht]; simp)) hs hr fun I' G' a' w' hn hs' ho => hK _ _ (h I' G' a' w' hn hs' fun t ht => ho t fun e => ht (by rw [e]; simp [AItem.dsts]))
        obtain ⟨g, h1, h2, _⟩ := hgd j b (by rw [← hg]; exact hj)
        exact ⟨g, h1, h2⟩
      · simp at hok
  | .sc g b l r d, gd, seen, os, rest, I, G, w, a, s, s', hok, hr, hs, hgd, h => by
    cases os with
    | nil => simp [okItem] at hok
    | cons o os =>
      simp only [okItem] at hok
      split at hok
      · rename_i i b2 hg
        split at hok
        · rename_i hc
          simp only [Bool.and_eq_true, decide_eq_true_eq, Bool.not_eq_true', List.contains_eq_mem, decide_eq_false_iff_not] at hc
          obtain ⟨⟨⟨⟨rfl, hdi⟩, hgl⟩, -⟩, hdN⟩ := hc
          split at hok
          · rename_i p rest' hl
            split at hok
            · rename_i hp
              obtain rfl := Option.some.inj hok
              simp only [Bool.and_eq_true, decide_eq_true_eq] at hp
              obtain ⟨⟨hpg, hpd⟩, hpick⟩ := hp
              rw [runItem] at hr
              obtain ⟨x, hx, hr⟩ := Option.bind_eq_some_iff.1 hr
              obtain ⟨y, hy, hr⟩ := Option.bind_eq_some_iff.1 hr
              obtain rfl := Option.some.inj hr
              have hgx : tmp a g = .bool x := by
                have := hs.fr g
                rw [asBool_some hx] at this
                show a.tmps.getD g undef = _
                generalize a.tmps.getD g undef = u at this
                cases this; rfl
              -- behind the group: the pick
              have fin : ∀ (I' : Imm) (G' : List Gh) (a1 : Act) (w' : World), Nx I G s.H w I' G' s.H w' → a1.defers = [] → N ≤ a1.tmps.size → (∀ t, t ∉ dstsL l → tmp a1 t = tmp a t) → (∃ u, CR I' G' (.bool y) u ∧ (execOp a1.eval p).run P w' = .ok (.value u) w') → wpList P ops Q (p :: rest') a1 w' := by
                intro I' G' a1 w' hn hdf hsz ho ⟨u, hu, hrun⟩
                refine wpList_want (fun j b hj => ?_) fun K hK => ?_
                · obtain ⟨g0, h1, h2, h3⟩ := hgd j b (by rw [← hpg]; exact hj)
                  simp only [AItem.dsts, List.mem_cons, not_or] at h3
                  exact ⟨g0, h1, (ho g0 h3.2).trans h2⟩
                · unfold Oper.wp
                  rw [hrun]
                  refine hK _ _ (h I' G' _ w' hn ⟨hn.rel, fun t => ?_, (put_defers _ _ _).trans hdf, by rw [put_size]; exact hsz, ⟨hs.inv.base, hs.inv.le, hs.inv.esc, hs.inv.wr⟩⟩ fun t ht => ?_)
                  · show CR I' G' (fget ((d, .bool y) :: ((dstsL l).map (fun i => (i, AV.unk)) ++ s.fr)) t) (tmp (a1.put p.dst u) t)
                    rw [fget, fget_unks]
                    by_cases e : t = d
                    · subst e
                      rw [if_pos rfl, hpd, tmp_put_same (Nat.lt_of_lt_of_le hdN hsz)]
                      exact hu
                    · rw [if_neg e, hpd, tmp_put_other (by simpa using Ne.symm e)]
                      split
                      · exact .unk _
                      · rename_i htl
                        rw [ho t htl]
                        exact (hs.fr.ext hn.ext) t
                  · simp only [AItem.dsts, List.mem_cons, not_or] at ht
                    rw [hpd, tmp_put_other (by simpa using Ne.symm ht.1)]
                    exact ho t ht.2
              by_cases hxb : x = b2
              · subst hxb
                rw [if_pos rfl] at hy
                obtain ⟨s1, hs1, hy⟩ := Option.bind_eq_some_iff.1 hy
                have hH : s1.H = s.H := items_H l hl hs1
                refine items_sound hC l hl hs1 hs (fun j b hj => ?_) fun I' G' a1 w' hn hs' ho => ?_
                · obtain ⟨rfl, rfl⟩ := Prod.mk.inj (Option.some.inj hj)
                  exact ⟨g, hdi, hgx, hgl⟩
                · rw [hH] at hn
                  refine fin I' G' a1 w' hn hs'.defers hs'.size ho ?_
                  have hr1 : ev s1.fr r = .bool y := asBool_some hy
                  have hg1 : a1.eval (.tmp g) = .bool x := (ho g hgl).trans hgx
                  generalize hpo : p.op = po at hpick
                  unfold okPick at hpick
                  split at hpick
                  · rename_i g' x1 y1
                    simp only [Bool.and_eq_true, beq_iff_eq] at hpick
                    obtain ⟨rfl, hpick⟩ := hpick
                    cases x with
                    | true =>
                      simp only [if_true, Bool.and_eq_true] at hpick
                      have := hs'.fr.ev hpick.1
                      rw [hr1] at this
                      exact ⟨_, this, by simp [execOp, hpo, hg1, asBool]⟩
                    | false =>
                      simp only [Bool.false_eq_true, if_false, Bool.and_eq_true] at hpick
                      have := hs'.fr.ev hpick.1
                      rw [hr1] at this
                      exact ⟨_, this, by simp [execOp, hpo, hg1, asBool]⟩
                  · simp at hpick
              · rw [if_neg hxb] at hy
                obtain rfl := Option.some.inj hy
                refine items_skip l hl hdi (by rw [hgx]; simpa using hxb) (fun t ht => by simp at ht) fun a1 hdf hsz hin ho => ?_
                refine fin I G a1 w (Nx.refl hs.rel) (hdf.trans hs.defers) (by rw [hsz]; exact hs.size) ho ⟨.bool x, .bool x, ?_⟩
                have hg1 : a1.eval (.tmp g) = .bool x := (ho g hgl).trans hgx
                generalize hpo : p.op = po at hpick
                unfold okPick at hpick
                split at hpick
                · rename_i g' x1 y1
                  simp only [Bool.and_eq_true, beq_iff_eq] at hpick
                  obtain ⟨rfl, hpick⟩ := hpick
                  cases b2 with
                  | true =>
                    have hxf : x = false := by simpa using hxb
                    subst hxf
                    simp only [if_true, Bool.and_eq_true] at hpick
                    have hc := hpick.2
                    split at hc
                    · have hk : a1.eval (.const (.bool false)) = .bool false ∧ a1.eval (.const (.bool true)) = .bool true := ⟨rfl, rfl⟩
                      simp [execOp, hpo, hg1, asBool, hk.1, hk.2]
                    · simp at hc
                  | false =>
                    have hxf : x = true := by simpa using hxb
                    subst hxf
                    simp only [Bool.false_eq_true, if_false, Bool.and_eq_true] at hpick
                    have hc := hpick.2
                    split at hc
                    · have hk : a1.eval (.const (.bool false)) = .bool false ∧ a1.eval (.const (.bool true)) = .bool true := ⟨rfl, rfl⟩
                      simp [execOp, hpo, hg1, asBool, hk.1, hk.2]
                    · simp at hc
                · simp at hpick
            · simp at hok
          · simp at hok
        · simp at hok
      · simp at hok
theorem items_sound (hC : CallOk P call) : ∀ (l : List AItem) {gd : Option (Nat × Bool)} {seen : List Nat} {os rest : List Oper} {I : Imm} {G : List Gh} {w : World} {a : Act} {s s' : St}, okItems P N ops gd seen l os = some rest → runOps call l s = some s' → SR H0 N I G w a s → Gd ops gd a (dstsL l) →
    (∀ I' G' a' w', Nx I G s.H w I' G' s'.H w' → SR H0 N I' G' w' a' s' → (∀ t, t ∉ dstsL l → tmp a' t = tmp a t) → wpList P ops Q rest a' w') → wpList P ops Q os a w
  | [], gd, seen, os, rest, I, G, w, a, s, s', hok, hr, hs, hgd, h => by
    simp only [okItems, Option.some.injEq] at hok
    simp only [runOps, Option.some.injEq] at hr
    subst hok
    subst hr
    exact h I G a w (Nx.refl hs.rel) hs fun _ _ => rfl
  | i :: l, gd, seen, os, rest, I, G, w, a, s, s', hok, hr, hs, hgd, h => by
    simp only [okItems] at hok
    rw [runOps] at hr
    obtain ⟨s1, h1, hr⟩ := Option.bind_eq_some_iff.1 hr
    split at hok
    · rename_i rest1 hi
      refine item_sound hC i hi h1 hs (fun j b hj => ?_) fun I1 G1 a1 w1 hn1 hs1 ho1 => ?_
      · obtain ⟨g, h1, h2, h3⟩ := hgd j b hj
        simp only [dstsL, List.mem_append, not_or] at h3
        exact ⟨g, h1, h2, h3.1⟩
      · refine items_sound hC l hok hr hs1 (fun j b hj => ?_) fun I2 G2 a2 w2 hn2 hs2 ho2 => ?_
        · obtain ⟨g, h1, h2, h3⟩ := hgd j b hj
          simp only [dstsL, List.mem_append, not_or] at h3
          exact ⟨g, h1, (ho1 g h3.1).trans h2, h3.2⟩
        · exact h I2 G2 a2 w2 (hn1.trans hn2) hs2 fun t ht => by
            simp only [dstsL, List.mem_append, not_or] at ht
            rw [ho2 t ht.2, ho1 t ht.1]
    · simp at hok
end
end
end Go.Proofs.Ytncnpgakflmibaa.Ai
