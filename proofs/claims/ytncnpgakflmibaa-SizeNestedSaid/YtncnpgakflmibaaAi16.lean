/- From the interpreter's answer at a law to the row. -/
import Derived.Test.YtncnpgakflmibaaAi15
import Derived.ProofKit
import Derived.Deep.Slices
import Derived.OpenShut
set_option linter.unusedSimpArgs false
set_option linter.unusedVariables false
set_option linter.unusedSectionVars false
namespace Go.Proofs.Ytncnpgakflmibaa.Ai
open Go.RowKit Go.ChangeShapes Go.WideShapes Go.ChangeAt

/-- Every cell of a world. -/
def cellsAt (W : World) : Imm := fun k o => W.cell? ⟨k, o, none⟩
/-! ### Arguments, opened -/
theorem trod_int_list {H : Type} {enc : TypeId × Value → H} {P : Program} {W : World} {base : Nat} {sp : Nat → Bool} {hd : Bool} {e : TypeId} {k : IntKind} {fuel : Nat} {u : Value} {x : DataW H × List MemPlace} (he : P.underlying e = some (.int k)) (h : DataW.trod enc P W base sp hd fuel e [u] = some x) : ∃ n, u = .int k n := by
  obtain ⟨n, h1, _⟩ := DataW.trod_int he h
  simp only [List.cons.injEq, and_true] at h1
  exact ⟨n, h1⟩
theorem crs_ints {I : Imm} {G : List Gh} {k : IntKind} : ∀ {us : List Value}, (∀ u ∈ us, u = .int k (intOf u)) → CRs I G ((us.map intOf).map (.int k)) us
  | [], _ => .nil
  | u :: us, h => by
    have hu := h u (by simp)
    simp only [List.map_cons]
    refine .cons ?_ ?_ (crs_ints fun v hv => h v (by simp [hv]))
    · rw [hu]; exact .int _ _
    · rw [hu]; rfl
theorem cr_ints {H : Type} {enc : TypeId × Value → H} {P : Program} {W : World} {base b0 : Nat} {sp : Nat → Bool} {hd : Bool} {r : Reach} {t e : TypeId} {k : IntKind} {v : Value} {d : DataW H} {ps : List MemPlace} (ht : P.underlying t = some (.slice e)) (he : P.underlying e = some (.int k)) (hc : P.cellsOf e = 1)
    (hval : Value.okWide P W r b0 t v) (h : DataW.Trod enc P W base sp hd t v d ps) : ∃ xs : List Int, CR (cellsAt W) [] (.sl xs.length (xs.map (.int k)) none) v := by
  obtain ⟨A, len0, cap0, rfl⟩ := okWide_slice ht hval
  obtain ⟨fuel, hf⟩ := h
  rcases Deep.open_slice1 ht hc hf with ⟨hcs, _⟩ | ⟨a, len, cap, m, n, V, D, Pl, hcs, _, hlc, hcm, hm, hx, hcell⟩
  · simp only [Value.cells, List.cons.injEq, Value.slice.injEq, and_true] at hcs
    obtain ⟨rfl, rfl, rfl⟩ := hcs
    exact ⟨[], .sl .nil (.inl rfl) (Nat.le_refl _) (fun t ht => by simp at ht)⟩
  · simp only [Value.cells, List.cons.injEq, Value.slice.injEq, and_true] at hcs
    obtain ⟨rfl, rfl, rfl⟩ := hcs
    have hlm : len0 ≤ m := by rw [hm]; split <;> omega
    have hV : ∀ i, i < len0 → V i = .int k (intOf (V i)) := fun i hi => by
      obtain ⟨z, hz⟩ := trod_int_list he (hcell i (by omega)).2
      rw [hz]; rfl
    have hlen : (((List.range len0).map V).map intOf).length = len0 := by simp
    refine ⟨((List.range len0).map V).map intOf, ?_⟩
    rw [hlen]
    refine .sl (crs_ints fun u hu => ?_) ?_ hlc (fun t ht => by simp at ht)
    · obtain ⟨i, hi, rfl⟩ := List.mem_map.1 hu
      exact hV i (List.mem_range.1 hi)
    · cases len0 with
      | zero => exact .inl rfl
      | succ len0 =>
        obtain ⟨b, o, sp'⟩ := a
        have h0 := (hcell 0 (by omega)).1
        have hs : sp' = none := by
          simp only [Addr.add, if_true, World.cell?] at h0
          split at h0
          · split at h0
            · simp at h0
            · rename_i hs; simpa using hs
          · simp at h0
        subst hs
        refine .inr ⟨b, o, rfl, fun j u hj => ?_⟩
        have hjl : j < len0 + 1 := by have := (List.getElem?_eq_some_iff.1 hj).1; simpa using this
        have := (hcell j (by omega)).1
        rw [add_lit] at this
        rw [List.getElem?_map, List.getElem?_range hjl] at hj
        obtain rfl := Option.some.inj hj
        exact this
theorem cr_nums {H : Type} {enc : TypeId × Value → H} {P : Program} {W : World} {base b0 : Nat} {sp : Nat → Bool} {hd : Bool} {r : Reach} {t e : TypeId} {k : IntKind} {n : Nat} {f0 : Field} {v : Value} {d : DataW H} {ps : List MemPlace} (ht : P.underlying t = some (.struct #[f0])) (h0 : f0.offset = 0) (ha : P.underlying f0.type = some (.array n e)) (he : P.underlying e = some (.int k)) (hc : P.cellsOf e = 1)
    (hcf : P.cellsOf f0.type = n) (hct : P.cellsOf t = n) (hval : Value.okWide P W r b0 t v) (h : DataW.Trod enc P W base sp hd t v d ps) : ∃ g : Nat → Int, CR (cellsAt W) [] (.agg ((List.range n).map fun i => .int k (g i))) v := by
  obtain ⟨cs, rfl, hsz⟩ := okWide_struct ht hval
  obtain ⟨fuel, hf⟩ := h
  obtain ⟨xs, m, _, _, hl, hxl, hx⟩ := DataW.trod_struct ht hf
  have h1 := hx 0 f0 rfl
  simp only [Value.cells] at hl h1
  rw [h0, List.drop_zero, hcf] at h1
  have hlen : cs.toList.length = n := by rw [hl, hct]
  rw [List.take_of_length_le (by omega)] at h1
  have hx0 : 0 < xs.length := by rw [hxl]; simp
  rw [List.getElem?_eq_getElem hx0] at h1
  obtain ⟨ys, m', _, _, _, hyl, hy⟩ := DataW.trod_array ha h1
  have hint : ∀ u ∈ cs.toList, u = .int k (intOf u) := fun u hu => by
    obtain ⟨i, hi, rfl⟩ := List.mem_iff_getElem.1 hu
    have h2 := hy i (by omega)
    rw [hc, Nat.mul_one, List.getElem?_eq_getElem (by omega), List.drop_eq_getElem_cons hi] at h2
    simp only [List.take_succ_cons, List.take_zero] at h2
    obtain ⟨z, hz⟩ := trod_int_list he h2
    rw [hz]; rfl
  refine ⟨fun i => intOf (cs.toList.getD i undef), ?_⟩
  have e : (List.range n).map (fun i => AV.int k (intOf (cs.toList.getD i undef))) = (cs.toList.map intOf).map (.int k) := by
    apply List.ext_getElem
    · simp [hlen] at hlen ⊢ <;> omega
    · intro i h1 h2
      have hi : i < cs.size := by simpa using h2
      simp [List.getD, hi]
  rw [e]
  have := CR.agg (I := cellsAt W) (G := []) (crs_ints hint)
  simpa using this
theorem Rel.start (W : World) : Rel (cellsAt W) [] [] W := ⟨rfl, fun _ _ _ h => h, fun i b g hb => by simp at hb, fun i j bi gi bj gj k _ hbi => by simp at hbi⟩
/-- A law's call, as the row asks: it comes back with true; nothing that was there has turned. -/
theorem law_calls {P : Program} {env : Nat → Option AFun} (hE : EnvOk P env) {f : Nat} {args : List AV} {us : List Value} {W : World} {H : List Box} {e wr : Bool} (h : Call env f args [] = some ⟨.bool true, H, e, wr⟩) (ha : CRt (cellsAt W) [] args us) :
    Calls P f us.toArray W fun e W' => e = .returned (.bool true) ∧ Below W.heap.size W W' :=
  Calls.mono ((Call_ok hE f args [] _ h).run (cellsAt W) [] W us (Rel.start W) ha) fun e W' ⟨_, u, I', G', he, hn, hv⟩ => by
    cases hv
    exact ⟨he, hn.tr.os, hn.tr.tape, hn.tr.output, hn.tr.size, fun k hk => hn.tr.keep k hk not_owned_nil⟩

section
variable {H : Type} {enc : TypeId × Value → H} {P : Program}
def rowed (P : Program) (ts : List TypeId) : Bool := ts.all fun t => P.readableRec t && decide (t < P.types.size)
theorem Below.trodAll (hl : laidOutB P = true) {W W' : World} (hb : Below W.heap.size W W') : ∀ {ts : List TypeId} {vs : List Value} {ds : List (DataW H)} {ps : List MemPlace}, rowed P ts = true → DataW.TrodAll enc P W 0 (fun _ => true) true ts vs ds ps → (∀ x ∈ ps, x.block < W.heap.size) →
    DataW.TrodAll enc P W' 0 (fun b => decide (b < W.heap.size)) true ts vs ds ps
  | [], [], [], _, _, h, _ => h
  | t :: ts, v :: vs, d :: ds, _, hr, ⟨p, q, h1, h2, rfl⟩, hlt => by
    simp only [rowed, List.all_cons, Bool.and_eq_true, decide_eq_true_eq] at hr
    exact ⟨p, q, Below.trod hl hr.1.1 hr.1.2 h1 hb (fun x hx => hlt x (List.mem_append_left _ hx)), Below.trodAll hl hb (by simpa [rowed] using hr.2) h2 (fun x hx => hlt x (List.mem_append_right _ hx)), rfl⟩
  | [], _ :: _, _, _, _, h, _ => by cases ‹List (DataW H)› <;> exact h.elim
  | [], [], _ :: _, _, _, h, _ => h.elim
  | _ :: _, [], _, _, _, h, _ => by cases ‹List (DataW H)› <;> exact h.elim
  | _ :: _, _ :: _, [], _, _, h, _ => h.elim
theorem post_of_below {f : Func} {s : ChangeSpec} {apart fresh handsOn : Bool} {W W' : World} {args : Array Value} {v : Value} {ds gs : List (DataW H)} {before : List MemPlace} (hl : laidOutB P = true) (hp : rowed P f.params.toList = true) (hvs : s.vars = [])
    (hW : DataW.Whole enc P f.params.toList s.vars apart W args.toList ds gs before) (hb : Below W.heap.size W W')
    (hres : ∀ (b : Nat) (sp : Nat → Bool) (hd : Bool), DataW.TrodAll enc P W' b sp hd f.resultTypes.toList (v.resultList f.resultTypes.size) (s.fn H (ds ++ gs)).results [])
    (hargs : (s.fn H (ds ++ gs)).args = ds) (hvars : (s.fn H (ds ++ gs)).vars = []) : s.post enc P f apart fresh handsOn false W args v W' := by
  have hold : ∀ x ∈ before, x.block < W.heap.size := fun x hx => hW.lt x hx
  have hW2 := hW
  obtain ⟨p, q, h1, h2, rfl, _, _⟩ := hW2
  refine ⟨ds, gs, p ++ q, [], p, q, hW, hres _ _ _, ?_, ?_, hb.frame _, fun h => by simp at h⟩
  · rw [hargs]
    exact Below.trodAll hl hb hp h1 fun x hx => hold x (List.mem_append_left _ hx)
  · rw [hvars, hvs]
    rw [hvs] at h2
    cases gs with
    | nil => exact h2
    | cons g gs => exact h2.elim
end
end Go.Proofs.Ytncnpgakflmibaa.Ai
