/- Regions whose order is drawn: operations that may change places say the same in either order. -/
import Derived.Test.YtncnpgakflmibaaAi13
set_option linter.unusedSimpArgs false
set_option linter.unusedVariables false
set_option linter.unusedSectionVars false
namespace Go.Proofs.Ytncnpgakflmibaa.Ai
open Go.RowKit

/-! ### What an operation reads -/
def AOp.aos : AOp → List AO
  | .mov x => [x]
  | .nilck x => [x]
  | .pick c a b => [c, a, b]
  | .alloc _ => []
  | .box x => [x]
  | .newtok _ => []
  | .build _ ps => ps.map fun p => p.2.2
  | .lit _ _ ps => ps.map fun p => p.2.2
  | .load _ _ a => [a]
  | .loadI _ _ a => [a]
  | .store _ a v => [a, v]
  | .bin _ x y => [x, y]
  | .beq _ x y => [x, y]
  | .peq _ x => [x]
  | .eqs _ x y => [x, y]
  | .un _ x => [x]
  | .conv _ x => [x]
  | .s2b x => [x]
  | .b2s x => [x]
  | .mkarr _ _ x => [x]
  | .slice _ x lo hi => x :: (lo.toList ++ hi.toList)
  | .faddr _ x => [x]
  | .field _ _ _ x => [x]
  | .iaddrA _ _ x i => [x, i]
  | .iaddr _ x i => [x, i]
  | .idxA _ _ _ x i => [x, i]
  | .idxS x i => [x, i]
  | .extr x _ => [x]
  | .len _ x => [x]
  | .mx l => l
  | .mn l => l
  | .append _ _ s x => [s, x]
  | .callC _ l => l
  | .callR _ l => l
  | .callS _ l => l
  | .callVC f l => f :: l
  | .callVR f l => f :: l
  | .callVS f l => f :: l
  | .mkfn _ l => l
  | .idxB x c => [x, c]
def AO.reads (d : Nat) : AO → Bool
  | .r t => t == d
  | .c _ => false
def AOp.reads (d : Nat) (op : AOp) : Bool := op.aos.any (AO.reads d)
theorem fill_congr {e e' : AO → AV} : ∀ {ps : List (Nat × Nat × AO)} {l : List AV}, (∀ x ∈ ps.map (fun p => p.2.2), e x = e' x) → fill e ps l = fill e' ps l
  | [], l, _ => rfl
  | (off, s, x) :: r, l, h => by
    simp only [List.map_cons, List.mem_cons, forall_eq_or_imp] at h
    simp only [fill, h.1]
    congr 1
    funext cs
    split
    · exact fill_congr h.2
    · rfl
theorem bound_congr {e e' : AO → AV} {d : Nat} {x : Option AO} (h : ∀ y ∈ x.toList, e y = e' y) : bound e d x = bound e' d x := by
  cases x with
  | none => rfl
  | some y => simp only [bound, h y (by simp)]
theorem map_congr' {e e' : AO → AV} {l : List AO} (h : ∀ y ∈ l, e y = e' y) : l.map e = l.map e' := List.map_congr_left h
theorem step_congr {call : CallFn} {op : AOp} {e e' : AO → AV} {H : List Box} {base : Nat} (h : ∀ x ∈ op.aos, e x = e' x) : stepOp call op e H base = stepOp call op e' H base := by
  cases op
  case build zero ps => simp only [stepOp, stepP, fill_congr h]
  case lit n zero ps => simp only [stepOp, stepP]; rw [fill_congr (e := fun x => (e x).bare) (e' := fun x => (e' x).bare) fun x hx => by rw [h x hx]]
  case slice es x lo hi =>
    simp only [AOp.aos, List.mem_cons, List.mem_append, forall_eq_or_imp] at h
    have h1 : ∀ d, bound e d lo = bound e' d lo := fun d => bound_congr fun y hy => h.2 y (.inl hy)
    have h2 : ∀ d, bound e d hi = bound e' d hi := fun d => bound_congr fun y hy => h.2 y (.inr hy)
    simp only [stepOp, stepP, h.1, h1, h2]
  case mx l =>
    have hm : l.map e = l.map e' := map_congr' h
    simp only [stepOp, stepP, hm]
  case mn l =>
    have hm : l.map e = l.map e' := map_congr' h
    simp only [stepOp, stepP, hm]
  case mkfn f l =>
    have hm : l.map e = l.map e' := map_congr' h
    simp only [stepOp, stepP, hm]
  case callC f l =>
    have hm : l.map e = l.map e' := map_congr' h
    simp only [stepOp, hm]
  case callR f l =>
    have hm : l.map e = l.map e' := map_congr' h
    simp only [stepOp, hm]
  case callS f l =>
    have hm : l.map e = l.map e' := map_congr' h
    simp only [stepOp, hm]
  case callVC f l =>
    simp only [AOp.aos, List.mem_cons, forall_eq_or_imp] at h
    simp only [stepOp, h.1, map_congr' h.2]
  case callVR f l =>
    simp only [AOp.aos, List.mem_cons, forall_eq_or_imp] at h
    simp only [stepOp, h.1, map_congr' h.2]
  case callVS f l =>
    simp only [AOp.aos, List.mem_cons, forall_eq_or_imp] at h
    simp only [stepOp, h.1, map_congr' h.2]
  all_goals
    simp only [AOp.aos, List.mem_cons, forall_eq_or_imp, List.not_mem_nil, false_implies, implies_true, and_true] at h
    simp only [stepOp, stepP, h]

theorem pure3_move {H H' : List Box} {x : Option AV} {r : An} (h : pure3 H x = some r) : pure3 H' x = some ⟨r.v, H', false, false⟩ := by
  obtain ⟨v, hv, rfl⟩ := pure3_some h
  simp [pure3, hv]
theorem closed_move {call : CallFn} {f : Nat} {args : List AV} {H H' : List Box} {r : An} (h : callClosed call f args H = some r) : callClosed call f args H' = some ⟨r.v, H', false, false⟩ := by
  unfold callClosed at h ⊢
  split at h
  · rename_i hn
    rw [if_pos hn]
    obtain ⟨r0, h0, h⟩ := Option.bind_eq_some_iff.1 h
    rw [h0]
    unfold onClosed at h
    split at h
    · rename_i hv
      obtain rfl := Option.some.inj h
      simp [onClosed, hv]
    · simp at h
  · simp at h
/-- What asks nothing of the boxes answers the same whatever they hold. -/
theorem kind0_move {call : CallFn} {op : AOp} {e : AO → AV} {H H' : List Box} {base base' : Nat} {r : An} (hk : kind op = 0) (hs : stepOp call op e H base = some r) : stepOp call op e H' base' = some ⟨r.v, H', false, false⟩ := by
  cases op
  case callC f l => exact closed_move hs
  case callVC f l =>
    obtain ⟨g, hg, hs⟩ := Option.bind_eq_some_iff.1 hs
    simp only [stepOp, hg, Option.bind_some]
    exact closed_move hs
  case build => exact pure3_move hs
  case lit => exact pure3_move hs
  case bin => exact pure3_move hs
  case un => exact pure3_move hs
  case mx => exact pure3_move hs
  case mn => exact pure3_move hs
  case mov => obtain rfl := Option.some.inj hs; rfl
  case mkfn => obtain rfl := Option.some.inj hs; rfl
  case peq ne x =>
    simp only [stepOp, stepP] at hs ⊢
    obtain ⟨b, hb, hs⟩ := Option.bind_eq_some_iff.1 hs
    obtain rfl := Option.some.inj hs
    rw [hb]; rfl
  case slice es x lo hi =>
    simp only [stepOp, stepP] at hs ⊢
    split at hs
    · rename_i e0
      rw [if_pos e0]
      split at hs
      · obtain ⟨l, h1, hs⟩ := Option.bind_eq_some_iff.1 hs
        obtain ⟨m, h2, hs⟩ := Option.bind_eq_some_iff.1 hs
        split at hs
        · rename_i hlm
          obtain rfl := Option.some.inj hs
          simp [h1, h2, hlm]
        · simp at hs
      · simp at hs
    · rename_i e0
      rw [if_neg e0]
      split at hs
      · obtain ⟨l, h1, hs⟩ := Option.bind_eq_some_iff.1 hs
        obtain ⟨m, h2, hs⟩ := Option.bind_eq_some_iff.1 hs
        split at hs
        · rename_i hlm
          obtain rfl := Option.some.inj hs
          simp [h1, h2, hlm]
        · simp at hs
      · obtain ⟨l, h1, hs⟩ := Option.bind_eq_some_iff.1 hs
        obtain ⟨m, h2, hs⟩ := Option.bind_eq_some_iff.1 hs
        split at hs
        · rename_i hlm
          obtain rfl := Option.some.inj hs
          simp [h1, h2, hlm]
        · simp at hs
      · obtain ⟨l, h1, hs⟩ := Option.bind_eq_some_iff.1 hs
        obtain ⟨m, h2, hs⟩ := Option.bind_eq_some_iff.1 hs
        split at hs
        · rename_i hlm
          split at hs
          · rename_i hml
            obtain rfl := Option.some.inj hs
            simp only [h1, h2, Option.bind_some, if_pos hlm, if_pos hml]
          · rename_i hml
            obtain rfl := Option.some.inj hs
            simp only [h1, h2, Option.bind_some, if_pos hlm, if_neg hml]
        · simp at hs
      · simp at hs
  case iaddrA len es x i =>
    simp only [stepOp, stepP] at hs ⊢
    split at hs
    · split at hs
      · rename_i hin
        rw [if_pos hin]
        split at hs <;> first | (cases hs; done) | (obtain rfl := Option.some.inj hs; rfl)
      · simp at hs
    · simp at hs
  case iaddr es x i =>
    simp only [stepOp, stepP] at hs ⊢
    split at hs
    · split at hs
      · split at hs
        · rename_i hin
          obtain rfl := Option.some.inj hs
          rw [if_pos hin]
        · simp at hs
      · split at hs
        · rename_i hin
          obtain rfl := Option.some.inj hs
          rw [if_pos hin]
        · simp at hs
      · simp at hs
    · simp at hs
  case idxA len es ag x i =>
    simp only [stepOp, stepP] at hs ⊢
    split at hs
    · split at hs
      · rename_i hin
        rw [if_pos hin]
        split at hs
        · exact pure3_move hs
        · simp at hs
      · simp at hs
    · simp at hs
  case idxS x i =>
    simp only [stepOp, stepP] at hs ⊢
    split at hs
    · split at hs
      · rename_i h0
        rw [if_pos h0]
        exact pure3_move hs
      · simp at hs
    · simp at hs
  case len str x =>
    simp only [stepOp, stepP] at hs ⊢
    split at hs
    · rename_i h0
      rw [if_pos h0]
      exact pure3_move hs
    · simp at hs
  case b2s x =>
    simp only [stepOp, stepP] at hs ⊢
    split at hs
    · split at hs
      · rename_i h0
        rw [if_pos h0]
        exact pure3_move hs
      · simp at hs
    · obtain rfl := Option.some.inj hs; rfl
    · simp at hs
  case pick c x y =>
    simp only [stepOp, stepP] at hs ⊢
    split at hs
    · split at hs
      · rename_i h0
        obtain rfl := Option.some.inj hs
        rw [if_pos h0]
      · rename_i h0
        obtain rfl := Option.some.inj hs
        rw [if_neg h0]
    · simp at hs
  all_goals
    simp only [kind, Nat.reduceEqDiff, reduceCtorEq, Nat.succ_ne_zero] at hk
  all_goals
    simp only [stepOp, stepP] at hs ⊢
    split at hs <;> first | (cases hs; done) | exact pure3_move hs | (obtain rfl := Option.some.inj hs; rfl)

/-! ### States alike -/
structure Alike (s t : St) : Prop where
  fr : ∀ x, fget s.fr x = fget t.fr x
  H : s.H = t.H
  base : s.base = t.base
  esc : s.esc = t.esc
  wr : s.wr = t.wr
theorem Alike.refl (s : St) : Alike s s := ⟨fun _ => rfl, rfl, rfl, rfl, rfl⟩
theorem Alike.trans {s t u : St} (h : Alike s t) (h' : Alike t u) : Alike s u := ⟨fun x => (h.fr x).trans (h'.fr x), h.H.trans h'.H, h.base.trans h'.base, h.esc.trans h'.esc, h.wr.trans h'.wr⟩
theorem Alike.ev {s t : St} (h : Alike s t) : ev s.fr = ev t.fr := by
  funext x
  cases x with
  | r i => exact h.fr i
  | c v => rfl
theorem fget_put (fr : Fr) (d : Option Nat) (v : AV) (x : Nat) : fget (Ai.put fr d v) x = if d = some x then v else fget fr x := by
  cases d with
  | none => simp [Ai.put]
  | some d =>
    simp only [Ai.put, fget, Option.some.injEq]
    by_cases e : x = d
    · rw [if_pos e, if_pos e.symm]
    · rw [if_neg e, if_neg (Ne.symm e)]
def ones : List (Option Nat × AOp) → List AItem := List.map fun p => .one p.1 p.2
section
variable {call : CallFn}
theorem run1 {d : Option Nat} {op : AOp} {s : St} : runItem call (.one d op) s = (stepOp call op (ev s.fr) s.H s.base).bind (afterOp d s) := by rw [runItem]
theorem Alike.run1 {d : Option Nat} {op : AOp} {s t s' : St} (h : Alike s t) (hr : runItem call (.one d op) s = some s') : ∃ t', runItem call (.one d op) t = some t' ∧ Alike s' t' := by
  obtain ⟨r, hst, rfl⟩ := runOne_some hr
  refine ⟨{ fr := Ai.put t.fr d r.v, H := r.H, base := t.base, esc := t.esc || r.esc, wr := t.wr || r.wr }, ?_, ⟨fun x => ?_, rfl, h.base, by rw [h.esc], by rw [h.wr]⟩⟩
  · have : stepOp call op (Ai.ev t.fr) t.H t.base = some r := by rw [← h.ev, ← h.H, ← h.base]; exact hst
    rw [Ai.run1, this]
    rfl
  · rw [fget_put, fget_put, h.fr x]
theorem Alike.runs {s t s' : St} : ∀ {l : List (Option Nat × AOp)}, Alike s t → runOps call (ones l) s = some s' → ∃ t', runOps call (ones l) t = some t' ∧ Alike s' t'
  | [], h, hr => by
    simp only [ones, List.map_nil, runOps, Option.some.injEq] at hr ⊢
    subst hr
    exact ⟨t, rfl, h⟩
  | p :: l, h, hr => by
    simp only [ones, List.map_cons, runOps] at hr ⊢
    obtain ⟨s1, h1, hr⟩ := Option.bind_eq_some_iff.1 hr
    obtain ⟨t1, h2, ha⟩ := h.run1 h1
    rw [h2]
    exact Alike.runs (l := l) ha hr
/-- May two not change places? -/
def conf (p q : Option Nat × AOp) : Bool :=
  (p.1.any fun d => q.2.reads d || q.1 == some d) || (q.1.any fun d => p.2.reads d) || (kind p.2 == 2 && decide (0 < kind q.2)) || (kind q.2 == 2 && decide (0 < kind p.2))
theorem kind_le (op : AOp) : kind op ≤ 2 := by cases op <;> simp [kind]
theorem ev_put_other {fr : Fr} {d : Option Nat} {v : AV} {op : AOp} (h : ∀ t, d = some t → op.reads t = false) : ∀ x ∈ op.aos, ev (Ai.put fr d v) x = ev fr x := by
  intro x hx
  cases x with
  | c v => rfl
  | r i =>
    show fget _ _ = fget _ _
    rw [fget_put, if_neg]
    intro e
    have := h i e
    unfold AOp.reads at this
    rw [List.any_eq_false] at this
    exact this _ hx (by simp [AO.reads])
theorem any_false {α : Type} {o : Option α} {f : α → Bool} (h : o.any f = false) : ∀ d, o = some d → f d = false := fun d hd => by subst hd; simpa using h
theorem commute {p q : Option Nat × AOp} {P : Program} {o1 o2 : Op} {s s1 t : St} (hc : conf p q = false) (h1 : okOp P o1 p.2 = true) (h2 : okOp P o2 q.2 = true) (hp : runItem call (.one p.1 p.2) s = some s1) (hq : runItem call (.one q.1 q.2) s1 = some t) :
    ∃ s2 t', runItem call (.one q.1 q.2) s = some s2 ∧ runItem call (.one p.1 p.2) s2 = some t' ∧ Alike t t' := by
  obtain ⟨d1, op1⟩ := p
  obtain ⟨d2, op2⟩ := q
  simp only [conf, Bool.or_eq_false_iff, Bool.and_eq_false_iff, beq_eq_false_iff_ne, decide_eq_false_iff_not] at hc
  obtain ⟨⟨⟨c1, c2⟩, c3⟩, c4⟩ := hc
  replace c1 := fun t ht => Bool.or_eq_false_iff.1 (any_false c1 t ht)
  replace c2 := any_false c2
  obtain ⟨r1, hr1, rfl⟩ := runOne_some hp
  obtain ⟨r2, hr2, rfl⟩ := runOne_some hq
  dsimp only at hr1 hr2 h1 h2 c1 c2 c3 c4
  have e2 : ∀ x ∈ op2.aos, ev (Ai.put s.fr d1 r1.v) x = ev s.fr x := ev_put_other fun t ht => (c1 t ht).1
  have e1 : ∀ v, ∀ x ∈ op1.aos, ev (Ai.put s.fr d2 v) x = ev s.fr x := fun v => ev_put_other fun t ht => c2 t ht
  rw [step_congr e2] at hr2
  have key : ∃ r2', stepOp call op2 (ev s.fr) s.H s.base = some r2' ∧ r2'.v = r2.v ∧ ∃ r1', stepOp call op1 (ev s.fr) r2'.H s.base = some r1' ∧ r1'.v = r1.v ∧ r1'.H = r2.H ∧ ((s.esc || r2'.esc) || r1'.esc) = ((s.esc || r1.esc) || r2.esc) ∧ ((s.wr || r2'.wr) || r1'.wr) = ((s.wr || r1.wr) || r2.wr) := by
    by_cases k1 : kind op1 < 2
    · obtain ⟨hH, hE, hW⟩ := stepOp_keep h1 k1 hr1
      rw [hH] at hr2
      refine ⟨r2, hr2, rfl, ?_⟩
      by_cases k0 : kind op1 = 0
      · exact ⟨_, kind0_move k0 hr1, rfl, rfl, by simp [hE], by simp [hW]⟩
      · have k2 : kind op2 < 2 := by
          have := kind_le op2
          rcases c4 with c4 | c4
          · omega
          · omega
        obtain ⟨hH2, hE2, hW2⟩ := stepOp_keep h2 k2 hr2
        exact ⟨r1, by rw [hH2]; exact hr1, rfl, by rw [hH, hH2], by simp [hE2], by simp [hW2]⟩
    · have k0 : kind op2 = 0 := by
        have := kind_le op1
        rcases c3 with c3 | c3
        · omega
        · omega
      have hm := kind0_move (H' := s.H) (base' := s.base) k0 hr2
      obtain ⟨hH2, hE2, hW2⟩ := stepOp_keep h2 (by omega) hr2
      exact ⟨_, hm, rfl, r1, hr1, rfl, hH2.symm, by simp [hE2], by simp [hW2]⟩
  obtain ⟨r2', hs2, hv2, r1', hs1, hv1, hH, hE, hW⟩ := key
  refine ⟨{ fr := Ai.put s.fr d2 r2'.v, H := r2'.H, base := s.base, esc := s.esc || r2'.esc, wr := s.wr || r2'.wr }, { fr := Ai.put (Ai.put s.fr d2 r2'.v) d1 r1'.v, H := r1'.H, base := s.base, esc := (s.esc || r2'.esc) || r1'.esc, wr := (s.wr || r2'.wr) || r1'.wr }, ?_, ?_, ⟨fun x => ?_, hH.symm, rfl, hE.symm, hW.symm⟩⟩
  · rw [Ai.run1, hs2]; rfl
  · rw [Ai.run1]
    dsimp only
    rw [step_congr (e1 _), hs1]
    rfl
  · simp only [fget_put, hv1, hv2]
    by_cases a1 : d1 = some x
    · by_cases a2 : d2 = some x
      · exact absurd a2 (by simpa using (c1 x a1).2)
      · simp [a1, a2]
    · simp [a1]
/-- An operation that conflicts with none of those before it may go first. -/
theorem bubble {P : Program} {ok : Option Nat × AOp → Prop} (hok : ∀ p, ok p → ∃ o, okOp P o p.2 = true) {q : Option Nat × AOp} {B : List (Option Nat × AOp)} : ∀ {A : List (Option Nat × AOp)} {s t : St}, (∀ p ∈ A, ok p ∧ conf p q = false) → ok q → runOps call (ones (A ++ q :: B)) s = some t → ∃ s1 t', runItem call (.one q.1 q.2) s = some s1 ∧ runOps call (ones (A ++ B)) s1 = some t' ∧ Alike t t'
  | [], s, t, _, _, hr => by
    simp only [ones, List.nil_append, List.map_cons, runOps] at hr
    obtain ⟨s1, h1, hr⟩ := Option.bind_eq_some_iff.1 hr
    exact ⟨s1, t, h1, hr, Alike.refl _⟩
  | p :: A, s, t, hA, hq, hr => by
    simp only [ones, List.cons_append, List.map_cons, runOps] at hr
    obtain ⟨sp, hp, hr⟩ := Option.bind_eq_some_iff.1 hr
    obtain ⟨s1, t1, h1, h2, ha⟩ := bubble hok (fun x hx => hA x (by simp [hx])) hq hr
    obtain ⟨o1, ho1⟩ := hok p (hA p (by simp)).1
    obtain ⟨o2, ho2⟩ := hok q hq
    obtain ⟨s2, s3, h3, h4, ha2⟩ := commute (hA p (by simp)).2 ho1 ho2 hp h1
    obtain ⟨t2, h5, ha3⟩ := ha2.runs h2
    refine ⟨s2, t2, h3, ?_, ha.trans ha3⟩
    simp only [ones, List.cons_append, List.map_cons, runOps]
    rw [h4]
    exact h5
end

/-! ### Who must come before whom -/
def edgesOf (o : Oper) : List Nat := (o.after.toList.filter (Region.binds .any)).map (·.on)
def ancStep (tab : List Nat) (es : List Nat) : Nat := es.foldl (fun m k => m ||| (2 ^ k) ||| tab.getD k 0) 0
def ancs : List Oper → List Nat → List Nat
  | [], tab => tab
  | o :: os, tab => ancs os (tab ++ [ancStep tab (edgesOf o)])
theorem ancStep_mem {tab : List Nat} {x : Nat} : ∀ {es : List Nat} {m : Nat}, (es.foldl (fun m k => m ||| (2 ^ k) ||| tab.getD k 0) m).testBit x = true → m.testBit x = true ∨ ∃ k ∈ es, x = k ∨ (tab.getD k 0).testBit x = true
  | [], m, h => .inl h
  | k :: es, m, h => by
    simp only [List.foldl_cons] at h
    rcases ancStep_mem h with h | ⟨k', hk, h⟩
    · simp only [Nat.testBit_or, Nat.testBit_two_pow, Bool.or_eq_true, decide_eq_true_eq] at h
      rcases h with (h | h) | h
      · exact .inl h
      · exact .inr ⟨k, by simp, .inl h.symm⟩
      · exact .inr ⟨k, by simp, .inr h⟩
    · exact .inr ⟨k', by simp [hk], h⟩
theorem ancs_pre : ∀ (os : List Oper) (tab : List Nat) (i : Nat), i < tab.length → (ancs os tab)[i]? = tab[i]?
  | [], tab, i, h => rfl
  | o :: os, tab, i, h => by
    rw [ancs, ancs_pre os _ i (by simp; omega), List.getElem?_append_left h]
theorem ancs_at : ∀ (os : List Oper) (tab : List Nat) (j : Nat) (o : Oper), os[j]? = some o → ∃ tab', (ancs os tab)[tab.length + j]? = some (ancStep tab' (edgesOf o)) ∧ tab'.length = tab.length + j ∧ ∀ i, i < tab'.length → (ancs os tab)[i]? = tab'[i]?
  | [], tab, j, o, h => by simp at h
  | p :: os, tab, 0, o, h => by
    simp only [List.getElem?_cons_zero, Option.some.injEq] at h
    subst h
    refine ⟨tab, ?_, rfl, fun i hi => ?_⟩
    · rw [ancs, ancs_pre os _ _ (by simp)]
      simp
    · rw [ancs, ancs_pre os _ i (by simp; omega), List.getElem?_append_left hi]
  | p :: os, tab, j + 1, o, h => by
    obtain ⟨tab', h1, h2, h3⟩ := ancs_at os (tab ++ [ancStep tab (edgesOf p)]) j o (by simpa using h)
    simp only [List.length_append, List.length_cons, List.length_nil] at h1 h2
    refine ⟨tab', ?_, by omega, fun i hi => ?_⟩
    · rw [ancs, ← h1]
      congr 1
      omega
    · rw [ancs]; exact h3 i hi
def Closed (ops : Array Oper) (S : Nat → Prop) : Prop := ∀ j o, S j → ops[j]? = some o → ∀ k ∈ edgesOf o, S k
theorem anc_listed {ops : Array Oper} {S : Nat → Prop} (hS : Closed ops S) : ∀ (j : Nat) (o : Oper) (x : Nat), ops[j]? = some o → ((ancs ops.toList []).getD j 0).testBit x = true → (∀ k ∈ edgesOf o, S k) → S x := by
  intro j
  induction j using Nat.strongRecOn with
  | _ j ih =>
    intro o x ho hx hk
    obtain ⟨tab', h1, h2, h3⟩ := ancs_at ops.toList [] j o (by simpa using ho)
    simp only [List.length_nil, Nat.zero_add] at h1 h2
    simp only [List.getD, h1, Option.getD_some] at hx
    rcases ancStep_mem hx with h | ⟨k, hke, h⟩
    · simp at h
    · rcases h with rfl | h
      · exact hk _ hke
      · by_cases hlt : k < tab'.length
        · have hlt' : k < j := by omega
          have hko : ∃ ok, ops[k]? = some ok := by
            have : j < ops.size := (Array.getElem?_eq_some_iff.1 ho).1
            exact ⟨_, Array.getElem?_eq_getElem (by omega)⟩
          obtain ⟨ok, hok⟩ := hko
          refine ih k hlt' ok x hok ?_ (hS k ok (hk k hke) hok)
          rw [List.getD, h3 k hlt]
          exact h
        · rw [List.getD, List.getElem?_eq_none (by omega)] at h
          simp at h

/-! ### The region -/
abbrev dflt : Option Nat × AOp := (none, .mov (.c .unk))
def flat : List AItem → Option (List (Option Nat × AOp))
  | [] => some []
  | .one d op :: l => (flat l).map ((d, op) :: ·)
  | .sc _ _ _ _ _ :: _ => none
theorem flat_ones : ∀ {l : List AItem} {ps : List (Option Nat × AOp)}, flat l = some ps → l = ones ps
  | [], ps, h => by simp only [flat, Option.some.injEq] at h; subst h; rfl
  | .one d op :: l, ps, h => by
    simp only [flat, Option.map_eq_some_iff] at h
    obtain ⟨qs, hq, rfl⟩ := h
    rw [flat_ones hq]
    rfl
  | .sc _ _ _ _ _ :: _, ps, h => by simp [flat] at h
def okFlat (P : Program) (N : Nat) : List (Option Nat × AOp) → List Oper → Bool
  | [], [] => true
  | p :: l, o :: os => decide (o.guard = none) && decide (o.dst = p.1) && (p.1.toList.all fun t => decide (t < N)) && okOp P o.op p.2 && okFlat P N l os
  | _, _ => false
theorem okFlat_at {P : Program} {N : Nat} : ∀ {l : List (Option Nat × AOp)} {os : List Oper}, okFlat P N l os = true → l.length = os.length ∧ ∀ (i : Nat) o, os[i]? = some o → o.guard = none ∧ o.dst = (l.getD i dflt).1 ∧ (∀ t, (l.getD i dflt).1 = some t → t < N) ∧ okOp P o.op (l.getD i dflt).2 = true
  | [], [], _ => ⟨rfl, fun i o h => by simp at h⟩
  | p :: l, o :: os, h => by
    simp only [okFlat, Bool.and_eq_true, decide_eq_true_eq, List.all_eq_true] at h
    obtain ⟨h1, h2⟩ := okFlat_at h.2
    refine ⟨by simp [h1], fun i o' hi => ?_⟩
    cases i with
    | zero =>
      simp only [List.getElem?_cons_zero, Option.some.injEq] at hi
      subst hi
      exact ⟨h.1.1.1.1, h.1.1.1.2, fun t ht => h.1.1.2 t (by simp only [List.getD_cons_zero] at ht; rw [ht]; simp), h.1.2⟩
    | succ i => simpa using h2 i o' (by simpa using hi)
  | [], _ :: _, h => by simp [okFlat] at h
  | _ :: _, [], h => by simp [okFlat] at h
def okEdges : Nat → List Oper → Bool
  | _, [] => true
  | j, o :: os => ((edgesOf o).all fun k => decide (k < j)) && okEdges (j + 1) os
theorem okEdges_at : ∀ {os : List Oper} {b : Nat}, okEdges b os = true → ∀ (j : Nat) o, os[j]? = some o → ∀ k ∈ edgesOf o, k < b + j
  | [], b, _, j, o, h => by simp at h
  | p :: os, b, h, j, o, ho => by
    simp only [okEdges, Bool.and_eq_true, List.all_eq_true, decide_eq_true_eq] at h
    cases j with
    | zero =>
      simp only [List.getElem?_cons_zero, Option.some.injEq] at ho
      subst ho
      exact fun k hk => h.1 k hk
    | succ j =>
      intro k hk
      have := okEdges_at h.2 j o (by simpa using ho) k hk
      omega
def okConf (l : List (Option Nat × AOp)) (anc : List Nat) (n : Nat) : Bool := (List.range n).all fun j => (List.range j).all fun i => !(conf (l.getD i dflt) (l.getD j dflt)) || (anc.getD j 0).testBit i
def okDraw (P : Program) (N : Nat) (ops : Array Oper) (l : List AItem) : Bool := match flat l with
  | some ps => P.follows .mixedOrders && okFlat P N ps ops.toList && okEdges 0 ops.toList && okConf ps (ancs ops.toList []) ops.size
  | none => false
def unl (listed : Array Bool) (i : Nat) : Bool := !listed.getD i true
def rem (n : Nat) (listed : Array Bool) : List Nat := (List.range n).filter (unl listed)
theorem exists_min {p : Nat → Prop} (n : Nat) (h : p n) : ∃ m, p m ∧ ∀ k, k < m → ¬ p k := by
  induction n using Nat.strongRecOn with
  | _ n ih =>
    by_cases hk : ∃ k, k < n ∧ p k
    · obtain ⟨k, hlt, hp⟩ := hk
      exact ih k hlt hp
    · exact ⟨n, h, fun k hlt hp => hk ⟨k, hlt, hp⟩⟩
theorem mem_ready {ops : Array Oper} {listed : Array Bool} {i : Nat} (h : i ∈ Region.ready .any ops listed) : ∃ o, ops[i]? = some o ∧ unl listed i = true ∧ ∀ k ∈ edgesOf o, listed.getD k false = true := by
  simp only [Region.ready, List.mem_filter, List.mem_range, Bool.and_eq_true] at h
  obtain ⟨hi, hu, h⟩ := h
  refine ⟨_, Array.getElem?_eq_getElem hi, hu, fun k hk => ?_⟩
  rw [Array.getElem?_eq_getElem hi] at h
  simp only [Option.map_some, Option.getD_some, Array.all_eq_true_iff_forall_mem, Bool.or_eq_true, Bool.not_eq_true'] at h
  simp only [edgesOf, List.mem_map, List.mem_filter] at hk
  obtain ⟨e, ⟨he, hb⟩, rfl⟩ := hk
  rcases h e (by simpa using he) with h | h
  · rw [hb] at h; simp at h
  · exact h
theorem ready_mem {ops : Array Oper} {listed : Array Bool} {i : Nat} {o : Oper} (ho : ops[i]? = some o) (hu : unl listed i = true) (h : ∀ k ∈ edgesOf o, listed.getD k false = true) : i ∈ Region.ready .any ops listed := by
  have hi : i < ops.size := (Array.getElem?_eq_some_iff.1 ho).1
  simp only [Region.ready, List.mem_filter, List.mem_range, Bool.and_eq_true]
  refine ⟨hi, hu, ?_⟩
  rw [ho]
  simp only [Option.map_some, Option.getD_some, Array.all_eq_true_iff_forall_mem, Bool.or_eq_true, Bool.not_eq_true']
  intro e he
  cases hb : Region.binds .any e with
  | false => exact .inl rfl
  | true => exact .inr (h e.on (by simp only [edgesOf, List.mem_map, List.mem_filter]; exact ⟨e, ⟨by simpa using he, hb⟩, rfl⟩))
theorem rem_split {n i : Nat} {listed : Array Bool} (hn : listed.size = n) (hi : i < n) (hu : unl listed i = true) : ∃ A B, rem n listed = A ++ i :: B ∧ rem n (listed.setIfInBounds i true) = A ++ B ∧ ∀ x ∈ A, x < i ∧ unl listed x = true := by
  have hr : List.range n = List.range i ++ i :: List.range' (i + 1) (n - i - 1) := by
    have h1 := List.range'_append_1 (s := 0) (m := i) (n := n - i)
    have h2 : i + (n - i) = n := by omega
    rw [Nat.zero_add, h2] at h1
    rw [List.range_eq_range', ← h1, List.range_eq_range']
    congr 1
    have h3 : n - i = (n - i - 1) + 1 := by omega
    rw [h3, List.range'_succ]
    simp
  have hset : ∀ x, unl (listed.setIfInBounds i true) x = if x = i then false else unl listed x := fun x => by
    unfold unl
    by_cases e : x = i
    · subst e
      rw [if_pos rfl]
      simp [Array.getD, hn, hi]
    · rw [if_neg e]
      simp [Array.getElem?_setIfInBounds_ne (Ne.symm e)]
  refine ⟨(List.range i).filter (unl listed), (List.range' (i + 1) (n - i - 1)).filter (unl listed), ?_, ?_, fun x hx => ?_⟩
  · unfold rem
    rw [hr, List.filter_append, List.filter_cons, if_pos hu]
  · unfold rem
    rw [hr, List.filter_append, List.filter_cons, if_neg (by rw [hset]; simp)]
    congr 1
    · exact List.filter_congr fun x hx => by rw [hset, if_neg (by have := List.mem_range.1 hx; omega)]
    · exact List.filter_congr fun x hx => by rw [hset, if_neg (by have := (List.mem_range'_1.1 hx).1; omega)]
  · rw [List.mem_filter] at hx
    exact ⟨List.mem_range.1 hx.1, hx.2⟩
theorem SR.alike {H0 : List Box} {N : Nat} {I : Imm} {G : List Gh} {w : World} {a : Act} {s t : St} (h : SR H0 N I G w a s) (ha : Alike s t) : SR H0 N I G w a t :=
  ⟨by rw [← ha.H]; exact h.rel, fun x => by rw [← ha.fr x]; exact h.fr x, h.defers, h.size, ⟨by rw [← ha.base]; exact h.inv.base, by rw [← ha.H]; exact h.inv.le, by rw [← ha.esc, ← ha.base, ← ha.H]; exact h.inv.esc, by rw [← ha.wr, ← ha.H]; exact h.inv.wr⟩⟩
theorem draw_sound {P : Program} {N id : Nat} {ops : Array Oper} {l : List AItem} {call : CallFn} {H0 : List Box} {I : Imm} {G : List Gh} {w : World} {a : Act} {s t : St} {Q : Exit → Act → World → Prop} (hC : CallOk P call) (hok : okDraw P N ops l = true) (hs : SR H0 N I G w a s) (hr : runOps call l s = some t)
    (hQ : ∀ I' G' a' w', Nx I G s.H w I' G' t.H w' → SR H0 N I' G' w' a' t → Q .normal a' w') : (Code.region id ops true).wp P Q a w := by
  unfold okDraw at hok
  split at hok
  · rename_i ps hps
    simp only [Bool.and_eq_true] at hok
    obtain ⟨⟨⟨hm, hflat⟩, hedge⟩, hconf⟩ := hok
    obtain ⟨hlen, hat⟩ := okFlat_at hflat
    rw [flat_ones hps] at hr
    clear hps
    refine wp_region_any hm ?_
    have hdr := hs.rel.drew
    have hs1 : SR H0 N I G w.drew a s := ⟨hdr.rel, hs.fr.ext hdr.ext, hs.defers, hs.size, hs.inv⟩
    have item : Nat → Option Nat × AOp := fun i => ps.getD i dflt
    have main : ∀ (fuel : Nat) (listed : Array Bool) (I1 : Imm) (G1 : List Gh) (a1 : Act) (w1 : World) (s1 : St), listed.size = ops.size → Closed ops (fun k => listed.getD k false = true) → (rem ops.size listed).length ≤ fuel →
        (∃ t', runOps call (ones ((rem ops.size listed).map fun i => ps.getD i dflt)) s1 = some t' ∧ Alike t t') → Nx I G s.H w I1 G1 s1.H w1 → SR H0 N I1 G1 w1 a1 s1 → wpAny P .any ops Q fuel listed a1 w1 := by
      intro fuel
      induction fuel with
      | zero =>
        intro listed I1 G1 a1 w1 s1 hsz hcl hfu ⟨t', ht, ha⟩ hn hs1
        have hrem : rem ops.size listed = [] := List.eq_nil_of_length_eq_zero (by omega)
        rw [hrem] at ht
        simp only [List.map_nil, ones, runOps, Option.some.injEq] at ht
        subst ht
        refine ⟨?_, hQ I1 G1 a1 w1 (by rw [ha.H]; exact hn) (hs1.alike ⟨fun x => (ha.fr x).symm, ha.H.symm, ha.base.symm, ha.esc.symm, ha.wr.symm⟩)⟩
        cases hrd : Region.ready .any ops listed with
        | nil => rfl
        | cons i r =>
          obtain ⟨o, ho, hu, _⟩ := mem_ready (by rw [hrd]; exact List.mem_cons_self : i ∈ Region.ready .any ops listed)
          have : i ∈ rem ops.size listed := List.mem_filter.2 ⟨List.mem_range.2 (Array.getElem?_eq_some_iff.1 ho).1, hu⟩
          rw [hrem] at this
          simp at this
      | succ fuel ih =>
        intro listed I1 G1 a1 w1 s1 hsz hcl hfu ⟨t', ht, ha⟩ hn hs1
        refine ⟨fun hrd => ?_, fun i hi => ?_⟩
        · have hrem : rem ops.size listed = [] := by
            cases hre : rem ops.size listed with
            | nil => rfl
            | cons j r =>
              exfalso
              obtain ⟨m, hm1, hm2⟩ := exists_min (p := fun k => k ∈ rem ops.size listed) j (by rw [hre]; exact List.mem_cons_self)
              obtain ⟨hmr, hmu⟩ := List.mem_filter.1 hm1
              have hmn := List.mem_range.1 hmr
              have ho := Array.getElem?_eq_getElem hmn
              have : m ∈ Region.ready .any ops listed := ready_mem ho hmu fun k hk => by
                have hkm := okEdges_at hedge m _ (by rw [Array.getElem?_toList]; exact ho) k hk
                rw [Nat.zero_add] at hkm
                have hnk := hm2 k hkm
                cases hv : listed.getD k false with
                | true => rfl
                | false =>
                  refine absurd (List.mem_filter.2 ⟨List.mem_range.2 (by omega), ?_⟩) hnk
                  have hks : k < listed.size := by omega
                  simp only [Array.getD, hks, dif_pos] at hv
                  simp only [unl, Array.getD, hks, dif_pos, hv, Bool.not_false]
              rw [hrd] at this
              simp at this
          rw [hrem] at ht
          simp only [List.map_nil, ones, runOps, Option.some.injEq] at ht
          subst ht
          exact hQ I1 G1 a1 w1 (by rw [ha.H]; exact hn) (hs1.alike ⟨fun x => (ha.fr x).symm, ha.H.symm, ha.base.symm, ha.esc.symm, ha.wr.symm⟩)
        · obtain ⟨o, ho, hu, hk⟩ := mem_ready hi
          have hin : i < ops.size := (Array.getElem?_eq_some_iff.1 ho).1
          obtain ⟨A, B, hAB, hAB', hA⟩ := rem_split hsz hin hu
          obtain ⟨hgd, hdst, hdN, hop⟩ := hat i o (by rw [Array.getElem?_toList]; exact ho)
          rw [hAB, List.map_append, List.map_cons] at ht
          obtain ⟨s2, t2, h1, h2, ha2⟩ := bubble (P := P) (ok := fun p => ∃ o, okOp P o p.2 = true) (fun p h => h) (fun p hp => by
            obtain ⟨x, hx, rfl⟩ := List.mem_map.1 hp
            obtain ⟨hxi, hxu⟩ := hA x hx
            have hxo := Array.getElem?_eq_getElem (show x < ops.size by omega)
            refine ⟨⟨_, (hat x _ (by rw [Array.getElem?_toList]; exact hxo)).2.2.2⟩, ?_⟩
            unfold okConf at hconf
            rw [List.all_eq_true] at hconf
            have h3 := hconf i (List.mem_range.2 hin)
            rw [List.all_eq_true] at h3
            have h4 := h3 x (List.mem_range.2 hxi)
            simp only [Bool.or_eq_true, Bool.not_eq_true'] at h4
            rcases h4 with h4 | h4
            · exact h4
            · have := anc_listed hcl i o x ho h4 hk
              unfold unl at hxu
              have hxs : x < listed.size := by omega
              simp only [Array.getD, hxs, dif_pos] at this hxu
              rw [this] at hxu
              simp at hxu) ⟨_, hop⟩ ht
          unfold wpOp
          rw [ho]
          dsimp only
          rw [if_pos (by simp [Region.wanted, hgd])]
          refine .inl (one_sound hC hop hdst hdN hs1 h1 fun I2 G2 a2 w2 hn2 hs2 _ => ?_)
          refine ih (listed.setIfInBounds i true) I2 G2 a2 w2 s2 (by simp [hsz]) (fun j oj hj hoj k hkj => ?_) ?_ ⟨t2, ?_, ha.trans ha2⟩ (hn.trans hn2) hs2
          · have hmono : ∀ k, listed.getD k false = true → (listed.setIfInBounds i true).getD k false = true := fun k hk => by
              by_cases e : i = k
              · subst e
                simp [Array.getD, hsz, hin]
              · simp only [Array.getD_eq_getD_getElem?] at hk ⊢
                rw [Array.getElem?_setIfInBounds_ne e]
                exact hk
            by_cases e : i = j
            · subst e
              rw [ho] at hoj
              obtain rfl := Option.some.inj hoj
              exact hmono k (hk k hkj)
            · refine hmono k (hcl j oj ?_ hoj k hkj)
              simp only [Array.getD_eq_getD_getElem?] at hj ⊢
              rw [Array.getElem?_setIfInBounds_ne e] at hj
              exact hj
          · rw [hAB]at hfu
            rw [hAB']
            simp only [List.length_append, List.length_cons] at hfu ⊢
            omega
          · rw [hAB', List.map_append]
            exact h2
    have hrep : rem ops.size (Array.replicate ops.size false) = List.range ops.size := by
      unfold rem
      rw [List.filter_eq_self]
      intro x hx
      have := List.mem_range.1 hx
      simp [unl, Array.getD, this]
    refine main ops.size (Array.replicate ops.size false) I G a w.drew s (by simp) (fun j o hj => ?_) (by rw [hrep]; simp) ⟨t, ?_, Alike.refl _⟩ hdr hs1
    · simp only [Array.getD_eq_getD_getElem?] at hj
      by_cases hjn : j < ops.size
      · simp [hjn] at hj
      · rw [Array.getElem?_eq_none (by simpa using hjn)] at hj; simp at hj
    · rw [hrep]
      have : (List.range ops.size).map (fun i => ps.getD i dflt) = ps := by
        apply List.ext_getElem
        · simp [hlen]
        · intro i h1 h2
          simp [List.getD, List.getElem?_eq_getElem h2]
      rw [this]
      exact hr
  · simp at hok
end Go.Proofs.Ytncnpgakflmibaa.Ai
