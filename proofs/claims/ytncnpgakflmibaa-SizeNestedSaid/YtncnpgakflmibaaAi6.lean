/- Operations, one by one: what the model does where the interpreter answers. First part. -/
import Derived.Test.YtncnpgakflmibaaAi5
set_option linter.unusedSimpArgs false
set_option linter.unusedVariables false
namespace Go.Proofs.Ytncnpgakflmibaa.Ai
open Go.RowKit

/-! ### Operands -/
def constOk : Value → AV → Bool
  | .int k n, .int k' n' => decide (k = k') && decide (n = n')
  | .bool b, .bool b' => b == b'
  | .string s, .str l => decide (s.data.toList = l)
  | .pointer none, .nilp => true
  | .slice none 0 0, .nils => true
  | .map none, .nilm => true
  | .nilFunc, .nilf => true
  | .nilIface, .nili => true
  | _, _ => false
theorem constOk_cr {I : Imm} {G : List Gh} {v : Value} {c : AV} (h : constOk v c = true) : CR I G c v ∧ v.oneCell' = true := by
  unfold constOk at h
  split at h
  · simp only [Bool.and_eq_true, decide_eq_true_eq] at h
    obtain ⟨rfl, rfl⟩ := h
    exact ⟨.int _ _, rfl⟩
  · simp only [beq_iff_eq] at h
    subst h
    exact ⟨.bool _, rfl⟩
  · simp only [decide_eq_true_eq] at h
    subst h
    exact ⟨.str _, rfl⟩
  · exact ⟨.nilp, rfl⟩
  · exact ⟨.nils, rfl⟩
  · exact ⟨.nilm, rfl⟩
  · exact ⟨.nilf, rfl⟩
  · exact ⟨.nili, rfl⟩
  · simp at h
def constsOk : List Value → List AV → Bool
  | [], [] => true
  | v :: vs, c :: cs => constOk v c && constsOk vs cs
  | _, _ => false
theorem constsOk_cr {I : Imm} {G : List Gh} : ∀ {vs : List Value} {cs : List AV}, constsOk vs cs = true → CRs I G cs vs
  | [], [], _ => .nil
  | v :: vs, c :: cs, h => by
    simp only [constsOk, Bool.and_eq_true] at h
    exact .cons (constOk_cr h.1).1 (constOk_cr (I := I) (G := G) h.1).2 (constsOk_cr h.2)
  | [], _ :: _, h => by simp [constsOk] at h
  | _ :: _, [], h => by simp [constsOk] at h
def okO : Operand → AO → Bool
  | .tmp t, .r t' => t == t'
  | .const v, .c c => constOk v c
  | .func f, .c (.fn f' []) => f == f'
  | _, _ => false
def FR (I : Imm) (G : List Gh) (fr : Fr) (a : Act) : Prop := ∀ t, CR I G (fget fr t) (a.tmps.getD t undef)
theorem FR.ext {I I' : Imm} {G G' : List Gh} {fr : Fr} {a : Act} (h : FR I G fr a) (he : Ext I G I' G') : FR I' G' fr a := fun t => (h t).ext he
theorem FR.ev {I : Imm} {G : List Gh} {fr : Fr} {a : Act} (h : FR I G fr a) {x : Operand} {y : AO} (ho : okO x y = true) : CR I G (ev fr y) (a.eval x) := by
  unfold okO at ho
  split at ho
  · simp only [beq_iff_eq] at ho; subst ho; exact h _
  · exact (constOk_cr ho).1
  · simp only [beq_iff_eq] at ho; subst ho; exact .fn .nil
  · simp at ho
theorem FR.put {I : Imm} {G : List Gh} {fr : Fr} {a : Act} (h : FR I G fr a) (d : Option Nat) {v : AV} {u : Value} (hv : CR I G v u) (hd : ∀ t, d = some t → t < a.tmps.size) : FR I G (put fr d v) (a.put d u) := by
  cases d with
  | none => exact h
  | some d =>
    intro t
    have hs := hd d rfl
    simp only [Ai.put, fget, Act.put]
    by_cases e : t = d
    · subst e
      rw [if_pos rfl]
      simp [Array.getD, hs]
      exact hv
    · rw [if_neg e]
      have := h t
      simp only [Array.getD, Array.size_setIfInBounds] at this ⊢
      split
      · rename_i ht
        rw [dif_pos ht] at this
        simp only [Array.getInternal_eq_getElem] at this ⊢
        rw [Array.getElem_setIfInBounds_ne (by simpa using ht) (Ne.symm e)]
        exact this
      · rename_i ht
        rw [dif_neg ht] at this
        exact this
theorem FR.clean {I : Imm} {G : List Gh} {fr : Fr} {a : Act} (h : FR I G fr a) (live : List Nat) : FR I G (clean live fr) a := by
  intro t
  have : ∀ l : List Nat, CR I G (fget (l.map fun i => (i, fget fr i)) t) (a.tmps.getD t undef) := by
    intro l
    induction l with
    | nil => exact .unk _
    | cons i l ih =>
      simp only [List.map_cons, fget]
      split
      · rename_i e; subst e; exact h t
      · exact ih
  exact this live
theorem FR.drop1 {I : Imm} {G : List Gh} {fr : Fr} {a : Act} (h : FR I G fr a) (d : Option Nat) (u : Value) : True := trivial

/-! ### What the types' tables say -/
def TySize (P : Program) (t : TypeId) (s : Nat) : Prop := ∃ i, P.info? t = some i ∧ i.size = s
def isAggD : TypeDesc → Bool
  | .struct _ => true
  | .array _ _ => true
  | _ => false
def TyAgg (P : Program) (t : TypeId) (ag : Bool) : Prop := ∃ d, P.underlying t = some d ∧ isAggD d = ag
theorem TySize.run {P : Program} {t : TypeId} {s : Nat} (h : TySize P t s) (w : World) : (sizeOf t).run P w = .ok s w := by
  obtain ⟨i, hi, rfl⟩ := h
  simp [sizeOf, typeInfo, hi]
theorem TyAgg.run {P : Program} {t : TypeId} {ag : Bool} (h : TyAgg P t ag) (w : World) : (isAgg t).run P w = .ok ag w := by
  obtain ⟨d, hd, rfl⟩ := h
  cases d <;> simp [isAgg, run_underlying hd, isAggD]

section
variable {P : Program} {I : Imm} {G : List Gh} {H : List Box} {w : World} {a : Act}
/-- What is owed for an operation: whatever comes next, at a value that the answer tells, in a memory that it tells. -/
def Sound (P : Program) (I : Imm) (G : List Gh) (H : List Box) (w : World) (a : Act) (o : Oper) (v : AV) (H' : List Box) : Prop :=
  ∀ (next : Act → World → Prop) (Q : Exit → Act → World → Prop), (∀ I' G' u w', Nx I G H w I' G' H' w' → CR I' G' v u → next (a.put o.dst u) w') → o.wp P a w next Q
theorem Sound.value {o : Oper} {v : AV} {H' : List Box} {I' : Imm} {G' : List Gh} {u : Value} {w' : World} (hr : (execOp a.eval o).run P w = .ok (.value u) w') (hn : Nx I G H w I' G' H' w') (hv : CR I' G' v u) : Sound P I G H w a o v H' := by
  intro next Q h
  unfold Oper.wp
  rw [hr]
  exact h I' G' u w' hn hv
theorem Sound.skip {o : Oper} {H' : List Box} {I' : Imm} {G' : List Gh} {w' : World} (hr : (execOp a.eval o).run P w = .ok .skip w') (hn : Nx I G H w I' G' H' w') : Sound P I G H w a o .unk H' := by
  intro next Q h
  unfold Oper.wp
  rw [hr]
  exact h I' G' undef w' hn (.unk _)
theorem Sound.same {o : Oper} {v : AV} {u : Value} (h : Rel I G H w) (hr : (execOp a.eval o).run P w = .ok (.value u) w) (hv : CR I G v u) : Sound P I G H w a o v H := Sound.value hr (Nx.refl h) hv

/-! ### Reading -/
theorem rd_cells {s : Nat} {ag : Bool} {cs : List AV} {us : List Value} {v : AV} (h : CRs I G cs us) (hr : rd s ag cs = some v) (h1 : ag = false → s = 1) : s ≤ us.length ∧ CR I G v (if ag then .agg (us.take s).toArray else us.headD undef) := by
  unfold rd at hr
  cases ag with
  | true =>
    simp only [if_true] at hr
    split at hr
    · obtain rfl := Option.some.inj hr
      exact ⟨by rw [← h.length]; assumption, .agg (h.takeN s)⟩
    · simp at hr
  | false =>
    have := h1 rfl
    subst this
    cases h with
    | nil => simp at hr
    | cons h1 h2 hs =>
      simp at hr
      subst hr
      exact ⟨by simp, h1⟩
theorem add_lit (k o j : Nat) : (⟨k, o, none⟩ : Addr).add j = ⟨k, o + j, none⟩ := by unfold Addr.add; split <;> simp_all
theorem run_loadVar {t : TypeId} {s : Nat} {ag : Bool} (hs : TySize P t s) (ha : TyAgg P t ag) (h1 : ag = false → s = 1) {k o : Nat} {us : List Value} (hl : s ≤ us.length) (hc : ∀ j u, us[j]? = some u → w.cell? ⟨k, o + j, none⟩ = some u) :
    (loadVar t ⟨k, o, none⟩).run P w = .ok (if ag then .agg (us.take s).toArray else us.headD undef) w := by
  unfold loadVar
  simp only [Sem.run_bind, ha.run, Result.andThen_ok]
  cases ag with
  | true =>
    have hlen : (us.take s).length = s := by rw [List.length_take]; omega
    have := run_loadCells_list (P := P) w ⟨k, o, none⟩ (us.take s) (fun j v hj => by
      rw [add_lit]
      rw [List.getElem?_take] at hj
      split at hj
      · exact hc j v hj
      · simp at hj)
    rw [hlen] at this
    simp [hs.run, this]
  | false =>
    have := h1 rfl
    subst this
    cases us with
    | nil => simp at hl
    | cons u us =>
      have := hc 0 u rfl
      simp only [Nat.add_zero] at this
      simp [this]
/-- The cells behind an address. -/
theorem Rel.cells (h : Rel I G H w) {v : AV} {u : Value} (hv : CR I G v u) : (∀ b o cs, v = .ptr b o → H[b]? = some (.cells cs) → ∃ k us t, u = .pointer (some ⟨k, o, none⟩) ∧ G[b]? = some (.blk k) ∧ w.heap[k]? = some (.cells us t (0, 0)) ∧ CRs I G cs us.toList) ∧
    (∀ cs, v = .eptr cs → ∃ k o us, u = .pointer (some ⟨k, o, none⟩) ∧ CRs I G cs us ∧ ∀ (j : Nat) x, us[j]? = some x → w.cell? ⟨k, o + j, none⟩ = some x) := by
  refine ⟨fun b o cs hb hH => ?_, fun cs hb => ?_⟩
  · subst hb
    cases hv with
    | ptr hg =>
      obtain ⟨us, t, hh, hc, _⟩ := h.box _ _ _ hH hg
      exact ⟨_, us, t, rfl, hg, hh, hc⟩
  · subst hb
    cases hv with
    | eptr hc hat => exact ⟨_, _, _, rfl, hc, fun j x hj => h.imm _ _ _ (hat j x hj)⟩
theorem cell_of_block {k : Nat} {us : Array Value} {t : TypeId} {fr : Nat × Nat} (h : w.heap[k]? = some (.cells us t fr)) (o : Nat) : w.cell? ⟨k, o, none⟩ = us[o]? := by simp [World.cell?, h]
theorem sound_load {o : Oper} {t : TypeId} {x : Operand} {s : Nat} {ag : Bool} {v r : AV} (h : Rel I G H w) (ho : o.op = .load t x) (hs : TySize P t s) (ha : TyAgg P t ag) (h1 : ag = false → s = 1) (hx : CR I G v (a.eval x))
    (hr : (∃ b off cs, v = .ptr b off ∧ H[b]? = some (.cells cs) ∧ rd s ag (cs.drop off) = some r) ∨ ∃ cs, v = .eptr cs ∧ rd s ag cs = some r) : Sound P I G H w a o r H := by
  rcases hr with ⟨b, off, cs, hv, hH, hr⟩ | ⟨cs, hv, hr⟩
  · obtain ⟨k, us, t', hu, hg, hh, hc⟩ := (h.cells hx).1 b off cs hv hH
    obtain ⟨hl, hcr⟩ := rd_cells (hc.drop off) hr h1
    refine Sound.same h ?_ hcr
    have := run_loadVar (w := w) hs ha h1 (k := k) (o := off) hl (fun j y hj => by
      rw [cell_of_block hh]
      rw [List.getElem?_drop] at hj
      simpa using hj)
    simp [execOp, ho, Instr.loadAt, Instr.sureAddr, hu, this]
  · obtain ⟨k, off, us, hu, hc, hat⟩ := (h.cells hx).2 cs hv
    obtain ⟨hl, hcr⟩ := rd_cells hc hr h1
    refine Sound.same h ?_ hcr
    have := run_loadVar (w := w) hs ha h1 (k := k) (o := off) hl hat
    simp [execOp, ho, Instr.loadAt, Instr.sureAddr, hu, this]

/-! ### Writing -/
theorem cellsOf_cr {v : AV} {u : Value} {cs : List AV} (h : CR I G v u) (hc : cellsOf v = some cs) : CRs I G cs u.cells.toList := by
  cases h <;> simp only [cellsOf, Option.some.injEq] at hc <;> first
    | (subst hc; refine .cons ?_ rfl .nil; constructor <;> assumption)
    | (subst hc; simpa [Value.cells])
    | simp at hc
theorem splice_cr {cs l : List AV} {vs us : List Value} {off : Nat} (h : CRs I G cs vs) (hl : CRs I G l us) : CRs I G (splice off cs l) (us.take off ++ vs ++ us.drop (off + vs.length)) := by
  unfold splice
  rw [← h.length]
  exact ((hl.takeN off).append h).append (hl.drop _)
theorem sound_store {o : Oper} {t : TypeId} {x y : Operand} {s b off : Nat} {vx vy : AV} {cs vs : List AV} (h : Rel I G H w) (ho : o.op = .store t x y) (hs : TySize P t s) (hx : CR I G vx (a.eval x)) (hy : CR I G vy (a.eval y))
    (hv : vx = .ptr b off) (hH : H[b]? = some (.cells cs)) (hc : cellsOf vy = some vs) (hl : vs.length = s) (hfit : off + s ≤ cs.length) : Sound P I G H w a o .unk (H.set b (.cells (splice off vs cs))) := by
  obtain ⟨k, us, t', hu, hg, hh, hcs⟩ := (h.cells hx).1 b off cs hv hH
  have hvs := cellsOf_cr hy hc
  have hn := h.store hH hg hh (splice_cr (off := off) hvs hcs)
  refine Sound.skip (w' := w.setRow k (us.toList.take off ++ (a.eval y).cells.toList ++ us.toList.drop (off + (a.eval y).cells.toList.length)).toArray) ?_ hn
  have hlen : (a.eval y).cells.size = s := by rw [← hl, hvs.length, Array.length_toList]
  have := run_storeCells_at P k off t' (a.eval y).cells.toList 0 us w hh (by have := hcs.length; simp only [Array.length_toList] at this ⊢; omega) hvs.one
  simp only [Nat.add_zero] at this
  simp [execOp, ho, Instr.storeAt, Instr.sureAddr, hu, storeVar, hs.run, hlen, this]

/-! ### New boxes -/
theorem sound_alloc {o : Oper} {t : TypeId} {i : TypeInfo} {z : Value} {zero : List AV} (h : Rel I G H w) (ho : o.op = .alloc t) (hi : P.info? t = some i) (hz : i.zero = some z) (hc : constsOk z.cells.toList zero = true) :
    Sound P I G H w a o (.ptr H.length 0) (H ++ [.cells zero]) := by
  refine Sound.value (u := .pointer (some ⟨w.heap.size, 0, none⟩)) ?_ (h.newBox (constsOk_cr hc) t) (.ptr ?_)
  · simp [execOp, ho, Instr.alloc, zeroValue, typeInfo, hi, hz, newVar, newRow]
  · rw [← h.len]; simp
theorem sound_box {o : Oper} {t : TypeId} {x : Operand} {v : AV} {cs : List AV} (h : Rel I G H w) (ho : o.op = .box t x) (hx : CR I G v (a.eval x)) (hc : cellsOf v = some cs) : Sound P I G H w a o (.ptr H.length 0) (H ++ [.cells cs]) := by
  have := h.newBox (cellsOf_cr hx hc) t
  refine Sound.value (u := .pointer (some ⟨w.heap.size, 0, none⟩)) ?_ this (.ptr ?_)
  · simp [execOp, ho, Instr.box, newVar, newRow]
  · rw [← h.len]; simp
theorem sound_newtok {o : Oper} (es : Nat) (h : Rel I G H w) (ho : o.op = .assign (.const (.slice none 0 0))) : Sound P I G H w a o (.sl 0 [] (some H.length)) (H ++ [.tok 0 es]) := by
  refine Sound.value (u := .slice none 0 0) ?_ (h.newTok es) (.sl .nil (.inl rfl) (Nat.le_refl _) (fun t ht => ?_))
  · simp [execOp, ho, Act.eval]
  · obtain rfl := Option.some.inj ht
    exact ⟨_, by rw [← h.len, List.getElem?_append_right (Nat.le_refl _), Nat.sub_self]; rfl, if_pos rfl⟩
end
end Go.Proofs.Ytncnpgakflmibaa.Ai
